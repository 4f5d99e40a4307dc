/- Parts of a proof. -/
import Derived.Test.YtfpohljcapcliaaGreatDoorP
import Derived.Test.YtfpohljcapcliaaGreatDoorD
set_option linter.all false
set_option maxHeartbeats 4000000
noncomputable section
namespace Go.Ly
open Go Go.Am Go.Fs Go.Gn
variable {fns:Go.Am.F} {orc:Orc}
def Ow:pO→List pO| .mk _ _ _ _ _ _ a _=>a
def Je:pO→List pD| .mk _ _ _ _ _ _ _ d=>d
def BT:pD→List pO| .mk _ p _ _ _ _ _=>p
def aU:pD→List kV| .mk _ _ d _ _ _ _=>d
def iR:kV→Int| .mk k _ _ _ _=>k
def fR:kV→List (List UInt8)| .mk _ n _ _ _=>n
def wM:kV→List pO| .mk _ _ _ p _=>p
def qP:kV→List pD| .mk _ _ _ _ d=>d
def Av:kV:= .mk 0 [] [] [] []
def tot (l:List Part):Nat:=(l.map Part.nodes).sum
theorem Gl (p:Part) (l:List Part):tot (p::l)=p.nodes+tot l:=rfl
theorem tot_nil:tot []=0:=rfl
theorem Wm (a b:List Part):tot (a++b)=tot a+tot b:=by simp [tot]
theorem zK {l:List Part} {i:Nat} (hi:i<l.length):tot (l.drop i)=l[i].nodes+tot (l.drop (i+1)):=by rw [List.drop_eq_getElem_cons hi];rfl
theorem PZ (k op n man ex:Int) (t:List UInt8) (a:List pO) (d:List pD):(Part.exp (.mk k op n man ex t a d)).nodes=1+tot (a.map Part.exp)+tot (d.map Part.desc):=by
 rw [Part.qH];simp only [Part.kids,Part.own,List.map_append,List.sum_append,tot];omega
theorem xD (s:List UInt8) (p:List pO) (d:List kV) (e:List pO) (b:Bool) (i:List qN) (x:List pO):
  (Part.desc (.mk s p d e b i x)).nodes=1+tot (p.map Part.exp)+tot (d.map Part.decl)+tot (e.map Part.exp)+tot (i.map Part.imp)+tot (x.map Part.exp):=by
 rw [Part.qH];simp only [Part.kids,Part.own,List.map_append,List.sum_append,tot];omega
theorem GG (k:Int) (n:List (List UInt8)) (s p:List pO) (d:List pD):(Part.decl (.mk k n s p d)).nodes=1+n.length+tot (s.map Part.exp)+tot (p.map Part.exp)+tot (d.map Part.desc):=by
 rw [Part.qH];simp only [Part.kids,Part.own,List.map_append,List.sum_append,tot];omega
theorem PY (k:Int) (n:List UInt8) (e:List pO) (c:List vK) (b:Bool) (i:List qN):(Part.imp (.mk k n e c b i)).nodes=1+tot (e.map Part.exp)+tot (c.map Part.case)+tot (i.map Part.imp):=by
 rw [Part.qH];simp only [Part.kids,Part.own,List.map_append,List.sum_append,tot];omega
theorem MZ (v:List pO) (i:List qN):(Part.case (.mk v i)).nodes=1+tot (v.map Part.exp)+tot (i.map Part.imp):=by
 rw [Part.qH];simp only [Part.kids,Part.own,List.map_append,List.sum_append,tot];omega
inductive Sub (R:Part):Part→Prop
 |refl:Sub R R
 |kid {p q:Part}:Sub R p→q∈p.kids→Sub R q
def VS (R p:Part):Prop:=Valid p∧Sub R p
theorem VS.kid {R p q:Part} (h:VS R p) (hq:q∈p.kids):VS R q:=⟨h.1.kid hq,.kid h.2 hq⟩
structure DS where
 pd:pD
 ow:kV
 num:Int
 ar:Int
 dc:List AV
 oc:List AV
 rt:Part
structure DS.Ok (D:DS):Prop where
 rd:RV (.desc D.pd) (.agg D.dc)
 ro:RV (.decl D.ow) (.agg D.oc)
 vd:Valid (.desc D.pd)
 ow:D.ow=Av∨0≤D.ar
 nd:(Part.desc D.pd).nodes<5000000
 sb:Sub D.rt (.desc D.pd)
def bx (D:DS) (b:Bool) (vc vu:AV) (off cl:Int):List AV:=D.dc++(.int .i64 D.num:: .int .i64 D.ar::(D.oc++[.bool b,vc,vu,.int .i64 off,.int .i64 cl]))
theorem C4 {D:DS} (k:D.Ok) (b:Bool) (vc vu:AV) (off cl:Int):(bx D b vc vu off cl).length=19:=by
 simp only [bx,List.length_append,List.length_cons,List.length_nil,kW k.rd,pG k.ro]
abbrev Es:=List (AV×AV×Nat)
def key (o i:Nat):AV:= .agg [.int .i64 (o:Int),.int .i64 (i:Int)]
theorem key_inj {o i p j:Nat} (h:key o i=key p j):o=p∧i=j:=by
 unfold key at h
 simp at h
 omega
theorem ki2 (o i p j:Nat):eqA (.cells [.int,.int]) (key o i) (key p j)= .ok (decide (o=p∧i=j)):=by
 simp only [key,eqA,Ai,AV.cells]
 by_cases h:o=p
 ·by_cases h2:i=j
  ·simp [lW,pR,aM,iQ,h,h2]
  ·have:¬(i:Int)=(j:Int):=om
   simp [lW,pR,aM,iQ,h,h2,this]
 ·have:¬(o:Int)=(p:Int):=om
  simp [lW,pR,aM,iQ,h,this]
theorem Ha (o i:Nat):∀(es:Es) (n:Nat),(∀e∈es,∃p j,e.1=key p j)→
  (findKey (.cells [.int,.int]) (key o i) es n= .ok none∧∀e∈es,e.1≠key o i)∨
  (∃j v b,findKey (.cells [.int,.int]) (key o i) es n= .ok (some (n+j,v))∧es[j]? =some (key o i,v,b)):=by
 intro es
 induction es with
 |nil=>intro n _;exact .inl ⟨rfl,fun e he=>by cases he⟩
 |cons e es ih=>
  intro n hk
  obtain ⟨a,v,b⟩:=e
  obtain ⟨p,j,hp⟩:=hk _ (List.mem_cons_self ..)
  simp only at hp
  subst hp
  simp only [findKey,ki2,aM]
  by_cases c:o=p∧i=j
  ·obtain ⟨rfl,rfl⟩:=c
   refine .inr ⟨0,v,b, ?_,rfl⟩
   simp
  ·rw [dF c]
   rcases ih (n+1) (fun e he=>hk e (List.mem_cons_of_mem _ he)) with ⟨h1,h2⟩|⟨j',v',b',h1,h2⟩
   ·refine .inl ⟨h1,fun e he=> ?_⟩
    rcases List.mem_cons.1 he with rfl|he
    ·intro q
     have:=key_inj q
     exact c ⟨this.1.symm,this.2.symm⟩
    ·exact h2 e he
   ·exact .inr ⟨j' +1,v',b',by rw [show n+(j' +1)=n+1+j' by omega];exact h1,h2⟩
theorem Eb (k v:AV):∀(n:Nat) (es:Es) (e:AV×AV×Nat),e∈pF k v n es→e∈es∨∃b,e=(k,v,b)
 |n,[],e,h=>by cases n<;>simp [pF] at h
 |0,(a,w,b)::r,e,h=>by
  simp only [pF,List.mem_cons] at h
  rcases h with rfl|h
  ·exact .inr ⟨b,rfl⟩
  ·exact .inl (List.mem_cons_of_mem _ h)
 |n+1,x::r,e,h=>by
  simp only [pF,List.mem_cons] at h
  rcases h with rfl|h
  ·exact .inl (List.mem_cons_self ..)
  ·rcases Eb k v n r e h with q|q
   ·exact .inl (List.mem_cons_of_mem _ q)
   ·exact .inr q
theorem Dg (k v:AV):∀(n:Nat) (es:Es) (w:AV) (b:Nat),es[n]? =some (k,w,b)→(∀e∈es,∃e' ∈pF k v n es,e'.1=e.1)∧∃e' ∈pF k v n es,e'.1=k
 |_,[],w,b,h=>by simp at h
 |0,x::r,w,b,h=>by
  obtain rfl:x=(k,w,b):=by simpa using h
  refine ⟨fun e he=> ?_,(k,v,b),List.mem_cons_self ..,rfl⟩
  rcases List.mem_cons.1 he with rfl|he
  ·exact ⟨(k,v,b),List.mem_cons_self ..,rfl⟩
  ·exact ⟨e,List.mem_cons_of_mem _ he,rfl⟩
 |n+1,x::r,w,b,h=>by
  obtain ⟨h1,e',h2,h3⟩:=Dg k v n r w b (by simpa using h)
  refine ⟨fun e he=> ?_,e',List.mem_cons_of_mem _ h2,h3⟩
  rcases List.mem_cons.1 he with rfl|he
  ·exact ⟨e,List.mem_cons_self ..,rfl⟩
  ·obtain ⟨e2,q1,q2⟩:=h1 e he
   exact ⟨e2,List.mem_cons_of_mem _ q1,q2⟩
structure GOk (l:List DS) (es:Es):Prop where
 ar:∀(j:Nat) D,l[j]? =some D→ -1≤D.ar∧D.ar<(j:Int)
 ok:∀(j:Nat) D,l[j]? =some D→D.Ok
 es:∀e∈es,∃(o i v:Nat) (D E:DS),e.1=key o i∧e.2.1= .int .i64 (v:Int)∧l[o]? =some D∧l[v]? =some E∧E.ar=(o:Int)∧(aU D.pd)[i]? =some E.ow∧E.pd∈qP E.ow
def Dn (l:List DS) (es:Es) (j:Nat):Prop:=∀D,l[j]? =some D→∀(i:Nat) d,(aU D.pd)[i]? =some d→qP d≠[]→∃e∈es,e.1=key j i
structure GB where
 pb:Nat
 nb:Nat
 eb:Nat
 ib:Nat
 ob:Nat
 tb:Nat
 mb:Nat
 base:Nat
 rt:Part
def gE (B:GB):AV:= .fn 56 [] [.ptr B.nb 0,.ptr B.eb 0,.ptr B.ob 0]
def gI (B:GB):AV:= .fn 57 [] [.ptr B.nb 0,.ptr B.eb 0,.ptr B.ib 0]
def gO (B:GB):AV:= .fn 58 [] [.ptr B.pb 0,.ptr B.nb 0,.ptr B.eb 0,.ptr B.ob 0,.ptr B.ib 0]
structure TG (B:GB) (ds:List (Nat×DS)) (es:Es) (h:aD):Prop where
 p_:cont h B.pb=some [.ptr B.tb 0]
 n_:∃z,cont h B.nb=some [.int .i64 z]
 e_:cont h B.eb=some [gE B]
 i_:cont h B.ib=some [gI B]
 o_:cont h B.ob=some [gO B]
 t_:∃sl,cont h B.tb=some [sl,.map B.mb,.aC]∧Acc h sl (ds.map fun e=> .ptr e.1 0)∧(∀t,jK sl=some t→B.base≤t)
 m_:∃clk,h.get B.mb=some (.map es clk)
 d_:∀e∈ds,cont h e.1=some (bx e.2 false .aC .aC 0 0)∧B.base≤e.1∧e.2.rt=B.rt
 bs:B.base≤B.nb∧B.base≤B.tb∧B.base≤B.mb
 g_:GOk (ds.map Prod.snd) es
 w_:ds.Pairwise fun a b=>a.1<b.1
structure CK (B:GB) (h h' :aD):Prop where
 next:h.next≤h'.next
 cells:∀i c,i≠B.nb→i≠B.tb→cont h i=some c→cont h' i=some c
 old:∀i,i<B.base→i<h.next→h'.get i=h.get i
theorem CK.trans {B:GB} {a b c:aD} (h:CK B a b) (k:CK B b c):CK B a c:=
 ⟨Nat.le_trans h.next k.next,fun i l h1 h2 q=>k.cells i l h1 h2 (h.cells i l h1 h2 q),fun i hi hl=>(k.old i hi (Nat.lt_of_lt_of_le hl h.next)).trans (h.old i hi hl)⟩
theorem CK.AT {B:GB} {a b:aD} (g:aP a b):CK B a b:=⟨g.next,fun i c _ _ q=>(aF g (aO q)).trans q,fun i _ hl=>g.get i hl⟩
theorem TG.grow {B:GB} {ds:List (Nat×DS)} {es:Es} {a b:aD} (k:TG B ds es a) (g:aP a b):TG B ds es b:=by
 have q:∀{i c},cont a i=some c→cont b i=some c:=fun w=>(aF g (aO w)).trans w
 refine ⟨q k.p_,k.n_.imp fun z w=>q w,q k.e_,q k.i_,q k.o_, ?_,k.m_.imp fun c w=>(g.get _ (aD.mN w)).trans w,fun e he=>⟨q (k.d_ e he).1,(k.d_ e he).2⟩,k.bs,k.g_,k.w_⟩
 obtain ⟨sl,h1,h2,h3⟩:=k.t_
 exact ⟨sl,q h1,h2.grow g,h3⟩
theorem TG.num {B:GB} {ds:List (Nat×DS)} {es:Es} {a:aD} (k:TG B ds es a) (z:Int):TG B ds es (a.set B.nb (.cells [.int .i64 z]))∧CK B a (a.set B.nb (.cells [.int .i64 z])):=by
 obtain ⟨z0,hz⟩:=k.n_
 have hl:=aO hz
 have q:∀{i c},i≠B.nb→cont a i=some c→cont (a.set B.nb (.cells [.int .i64 z])) i=some c:=fun hi w=>(aK hl hi).trans w
 have ne:∀{i c},cont a i=some c→c≠[.int .i64 z0]→i≠B.nb:=by
  rintro i c w hc rfl
  rw [hz] at w
  cases w
  exact hc rfl
 have gne:∀{i o},a.get i=some o→(∀c,o≠ .cells c)→(a.set B.nb (.cells [.int .i64 z])).get i=some o:=by
  intro i o w ho
  rw [aE _ _ _ _ hl ?_]
  ·exact w
  ·rintro rfl
   rw [gM hz] at w
   cases w
   exact ho _ rfl
 refine ⟨⟨q (ne k.p_ (by simp)) k.p_,⟨z,aG hl⟩,q (ne k.e_ (by simp [gE])) k.e_,q (ne k.i_ (by simp [gI])) k.i_,q (ne k.o_ (by simp [gO])) k.o_, ?_,k.m_.imp fun c w=>gne w (by simp),fun e he=>⟨q (ne (k.d_ e he).1 ?_) (k.d_ e he).1,(k.d_ e he).2⟩,k.bs,k.g_,k.w_⟩, ?_⟩
 ·obtain ⟨sl,h1,h2,h3⟩:=k.t_
  refine ⟨sl,q (ne h1 (by simp)) h1, ?_,h3⟩
  generalize ds.map (fun e=>AV.ptr e.1 0)=xs at h2
  cases h2 with
  |nil=>exact .nil
  |opn t xs ht hp=>exact .opn t _ (gne ht (by simp)) hp
 ·intro w
  obtain ⟨j,hj,rfl⟩:=List.getElem_of_mem he
  have:=C4 (k.g_.ok j _ (by rw [List.getElem?_map,List.getElem?_eq_getElem hj];rfl)) false .aC .aC 0 0
  rw [w] at this
  simp at this
 ·refine ⟨by simp,fun i c h1 _ w=>q h1 w,fun i hi _=>aE _ _ _ _ hl ?_⟩
  have:=k.bs.1
  omega
structure wI (B:GB) (k:Nat) (ds:List (Nat×DS)) (es:Es) (h:aD) (ds' :List (Nat×DS)) (es' :Es) (h' :aD) (n:Nat):Prop where
 tg:TG B ds' es' h'
 ck:CK B h h'
 ext:∃new,ds' =ds++new
 len:ds'.length≤ds.length+n
 keys:∀e∈es,∃e' ∈es',e'.1=e.1
 dn:∀j,k≤j→j<ds'.length→Dn (ds'.map Prod.snd) es' j
theorem wI.refl {B:GB} {ds:List (Nat×DS)} {es:Es} {h:aD} (t:TG B ds es h):wI B ds.length ds es h ds es h 0:=
 ⟨t,⟨Nat.le_refl _,fun _ _ _ _ q=>q,fun _ _ _=>rfl⟩,⟨[],by simp⟩,by omega,fun e he=>⟨e,he,rfl⟩,fun j h1 h2=>by omega⟩
theorem Dn.mono {l l' :List DS} {es es' :Es} {j:Nat} (h:Dn l es j) (hl:∃r,l' =l++r) (hj:j<l.length) (he:∀e∈es,∃e' ∈es',e'.1=e.1):Dn l' es' j:=by
 obtain ⟨r,rfl⟩:=hl
 intro D hD i d hd hn
 rw [List.getElem?_append_left hj] at hD
 obtain ⟨e,h1,h2⟩:=h D hD i d hd hn
 obtain ⟨e',h3,h4⟩:=he e h1
 exact ⟨e',h3,h4.trans h2⟩
theorem wI.trans {B:GB} {k n m:Nat} {ds ds1 ds2:List (Nat×DS)} {es es1 es2:Es} {h h1 h2:aD} (a:wI B k ds es h ds1 es1 h1 n) (b:wI B ds1.length ds1 es1 h1 ds2 es2 h2 m):wI B k ds es h ds2 es2 h2 (n+m):=by
 refine ⟨b.tg,a.ck.trans b.ck, ?_,by have:=a.len;have:=b.len;omega,fun e he=> ?_,fun j hj hl=> ?_⟩
 ·obtain ⟨x,rfl⟩:=a.ext
  obtain ⟨y,rfl⟩:=b.ext
  exact ⟨x++y,by simp⟩
 ·obtain ⟨e',q1,q2⟩:=a.keys e he
  obtain ⟨e2,q3,q4⟩:=b.keys e' q1
  exact ⟨e2,q3,q4.trans q2⟩
 ·by_cases c:j<ds1.length
  ·refine (a.dn j hj c).mono ?_ (by simpa using c) b.keys
   obtain ⟨y,rfl⟩:=b.ext
   exact ⟨y.map Prod.snd,by simp⟩
  ·exact b.dn j om hl
theorem wI.heap {B:GB} {k n:Nat} {ds ds1:List (Nat×DS)} {es es1:Es} {h h0 h1 h2:aD} (a:wI B k ds es h ds1 es1 h1 n) (c:CK B h0 h) (t:TG B ds1 es1 h2) (d:CK B h1 h2):wI B k ds es h0 ds1 es1 h2 n:=
 ⟨t,c.trans (a.ck.trans d),a.ext,a.len,a.keys,a.dn⟩
theorem wI.FP {B:GB} {k n m:Nat} {ds ds1:List (Nat×DS)} {es es1:Es} {h h1:aD} (a:wI B k ds es h ds1 es1 h1 n) (hm:n≤m):wI B k ds es h ds1 es1 h1 m:=
 ⟨a.tg,a.ck,a.ext,by have:=a.len;omega,a.keys,a.dn⟩
def wF (fns:Go.Am.F) (orc:Orc) (l:List pO):Prop:=∀(B:GB) (v:AV) (ds:List (Nat×DS)) (es:Es) (h:aD) (a:Int),RVs (l.map Part.exp) v→(∀e∈l,VS B.rt (.exp e))→TG B ds es h→ -1≤a∧a<(ds.length:Int)→ds.length+tot (l.map Part.exp)<5000000→
 ∃ds' es' h',Ev fns orc (.call 56 [v,.int .i64 a,.ptr B.nb 0,.ptr B.eb 0,.ptr B.ob 0] .plain h) (.call (.ret jC) .plain h')∧wI B ds.length ds es h ds' es' h' (tot (l.map Part.exp))
def CJ (fns:Go.Am.F) (orc:Orc) (l:List qN):Prop:=∀(B:GB) (v:AV) (ds:List (Nat×DS)) (es:Es) (h:aD) (a:Int),RVs (l.map Part.imp) v→(∀e∈l,VS B.rt (.imp e))→TG B ds es h→ -1≤a∧a<(ds.length:Int)→ds.length+tot (l.map Part.imp)<5000000→
 ∃ds' es' h',Ev fns orc (.call 57 [v,.int .i64 a,.ptr B.nb 0,.ptr B.eb 0,.ptr B.ib 0] .plain h) (.call (.ret jC) .plain h')∧wI B ds.length ds es h ds' es' h' (tot (l.map Part.imp))
def HA (fns:Go.Am.F) (orc:Orc) (d:pD):Prop:=∀(B:GB) (c:List AV) (ow:kV) (oc:List AV) (ds:List (Nat×DS)) (es:Es) (h:aD) (a:Int),RV (.desc d) (.agg c)→RV (.decl ow) (.agg oc)→VS B.rt (.desc d)→TG B ds es h→ -1≤a∧a<(ds.length:Int)→
 (ow=Av∨0≤a)→ds.length+(Part.desc d).nodes<5000000→
 ∃ds' es' h' l D,Ev fns orc (.call 58 [.agg c,.int .i64 a,.agg oc,.ptr B.pb 0,.ptr B.nb 0,.ptr B.eb 0,.ptr B.ob 0,.ptr B.ib 0] .plain h) (.call (.ret (.int .i64 (ds.length:Nat))) .plain h')∧wI B ds.length ds es h ds' es' h' (Part.desc d).nodes∧
  ds'[ds.length]? =some (l,D)∧D.pd=d∧D.ow=ow∧D.ar=a
end Go.Ly
namespace Go.Ly
open Go Go.Am Go.Fs Go.Gn
variable {fns:Go.Am.F} {orc:Orc}
theorem XO {l:List Part} {i:Nat} (hi:i<l.length):tot (l.drop (i+1))≤tot (l.drop i):=by rw [zK hi];omega
theorem A5 {d:pD} {c:List AV} (h:RV (.desc d) (.agg c)):c.all AV.bX=true:=by
 cases h with
 |desc h1 h2 h3 h4 h5=>simp [aS h1,aS h2,aS h3,aS h4,aS h5,cF,bK]
theorem IZ {d:pO} {c:List AV} (h:RV (.exp d) (.agg c)):c.all AV.bX=true:=by
 cases h with
 |exp h1 h2=>simp [aS h1,aS h2,cF,bJ]
theorem uG {d:kV} {c:List AV} (h:RV (.decl d) (.agg c)):c.all AV.bX=true:=by
 cases h with
 |decl h0 h1 h2 h3=>simp [qL h0,aS h1,aS h2,aS h3,bJ]
theorem IY {d:qN} {c:List AV} (h:RV (.imp d) (.agg c)):c.all AV.bX=true:=by
 cases h with
 |imp h1 h2 h3=>simp [aS h1,aS h2,aS h3,bJ,cF,bK]
theorem HO {d:vK} {c:List AV} (h:RV (.case d) (.agg c)):c.all AV.bX=true:=by
 cases h with
 |case h1 h2=>simp [aS h1,aS h2]
theorem Fx:RV (.decl Av) (.agg [.int .i64 0,.aC,.aC,.aC,.aC]):= .decl .nil .nil .nil .nil
theorem Qz (H:Has fns orc) {dl:List pD} (hO:∀d∈dl,HA fns orc d) {B:GB} (hV:∀d∈dl,VS B.rt (.desc d)) {vd:AV} {xs:List AV} (hx:iP vd xs) (hxl:xs.length=dl.length)
  (hg:∀i (hi:i<dl.length),∃c,xs[i]? =some (.agg c)∧RV (.desc dl[i]) (.agg c)) (hn:dl.length<5000000) {a:Int} {x11 x12 x13:AV}:
  ∀(k i:Nat) (ds:List (Nat×DS)) (es:Es) (h:aD),i+k=dl.length→TG B ds es h→ -1≤a∧a<(ds.length:Int)→ds.length+tot ((dl.map Part.desc).drop i)<5000000→
   ∃ds' es' h',Ev fns orc (.code 56 none (.loop p56x1001100111100) ⟨[(1,.int .i64 a),(2,.ptr B.nb 0),(3,.ptr B.eb 0),(4,.ptr B.ob 0),(11,x11),(12,x12),(13,x13),(25,vd),(26,.int .i64 (dl.length:Nat)),(27,.int .i64 (i:Nat))],[],.plain,h⟩)
    (.code (.exit 2) ⟨[(1,.int .i64 a),(2,.ptr B.nb 0),(3,.ptr B.eb 0),(4,.ptr B.ob 0),(11,x11),(12,x12),(13,x13),(25,vd),(26,.int .i64 (dl.length:Nat)),(27,.int .i64 (dl.length:Nat)),(28,.bool false)],[],.plain,h'⟩)∧
    wI B ds.length ds es h ds' es' h' (tot ((dl.map Part.desc).drop i)):=by
 intro k
 induction k with
 |zero=>
  intro i ds es h hi T ha hb
  have e:i=dl.length:=om
  have d:decide ((i:Int)<((dl.length:Nat):Int))=false:=dF om
  refine ⟨ds,es,h,Ev.code ⟨0,fun m _=> ?b0⟩,(wI.refl T).FP om⟩
  case b0=>
   simp -implicitDefEqProofs (disch:=(first|omega|(simp only [aD.aJ,aD.aL];try omega)|skip)) only [d,aI,fE,fG,dV,cT,dU,cS,fF,dR,gV,eQ,aM,dJ,iJ,opA,qS,kE,qT,pL,rJ,sB,dG,gU,fP,qM,mC,iZ,gJ,mK,dM,eZ,Nat.beq,lS,mH,eE,vl,rH,eY,eW,dW,fK,fH,fI,bY,iG,iD,cV,fL,fJ,bZ,iE,cU,cX,dA,cW,fM,dL,eT,eU,bP,iB,gZ,cK,eX,eV,bQ,iA,cJ,cP,cQ,cM,eS,dO,aY,dH,aZ,fB,bV,bR,bW,bT,dP,fD,kE,eN,kL,aT,aV,fO,gX,List.drop_zero,List.drop_succ_cons,rS,oEq,eqA,pR,ki,eP,eH,oneOf,iC,jH,mU,called,List.append_eq,List.nil_append,List.cons_append,List.append_assoc,Nat.zero_add,Nat.add_zero,kN,lK,aQ,aE,aD.aJ,aD.aL,List.length_cons,List.length_nil,Bool.and_true,Bool.true_and,List.all_cons,List.all_nil,bJ,cF,bK,bI,fA,Nat.reduceAdd,Nat.reduceEqDiff,Nat.reduceBEq,ite_true,ite_false,if_true,if_false,iQ,kH,jE,iK,iN,dK,iI,decide_eq_true_eq,decide_true,decide_false,qV,intArith,Int.ofNat_zero,reduceCtorEq,Bool.not_true,Bool.not_false,Bool.false_eq_true,Int.reduceEq,Int.reduceAdd,Int.zero_add,Int.add_zero,lZ,dQ,cR,oG,oI,oJ,oK,kR,iM,qE,iL,jA,qD,iW,jO,iY,pH,fU,eJ,eK,eL,fS,kK,lT,pK,mJ,jU,iV,List.reverse_cons,List.reverse_nil,oS,dD,dZ,dC,eD,bM,jB,jN,kZ,eO,qO,oMx,lE,jT,vF,lD,jN,kZ,kE,eN,evO,mZ,jL,mX,lH,lQ,oF,oE,gH,fX,dY,iU,uF,dD,dZ,dC,eD,bM,vG,tP,bound,vl,eqA,jC,Int.reduceLE,Int.reduceLT,kJ,jM,iS,aG,aK,dB,aR,kO,iO,jP,kM,lU,takeN,cI,jJ,jQ,iX,eM,gS,fQ,jR,kU,gN,KF,KG]
   rw [e]
 |succ k ih=>
  intro i ds es h hi T ha hb
  have hlt:i<dl.length:=om
  have d:decide ((i:Int)<((dl.length:Nat):Int))=true:=dT om
  obtain ⟨c,hc,rv⟩:=hg i hlt
  have hcl:=kW rv
  have hck:=A5 rv
  have hia:=kT hx hc hcl
  have p7:takeN 7 c=some c:=by rw [←hcl];exact aW c
  have hst:=mW h (sz:=7) (z:=kD) rfl hcl hck
  obtain ⟨hA,hAe⟩:∃x,x=(h.push (.cells kD)).set h.next (.cells c):=⟨_,rfl⟩
  rw [←hAe] at hst
  simp only [kD] at hst
  have gA:aP h hA:=by rw [hAe];exact gw2
  have cA:cont hA h.next=some c:=by rw [hAe];exact aG (by simp)
  have TA:=T.grow gA
  have oA:=TA.o_
  have td:=zK (l:=dl.map Part.desc) (i:=i) (by simpa using hlt)
  simp only [List.getElem_map] at td
  obtain ⟨ds1,es1,h1,l1,D1,⟨n1,e1⟩,P1,_⟩:=hO _ (List.getElem_mem hlt) B c Av _ ds es hA a rv Fx (hV _ (List.getElem_mem hlt)) TA ha (.inl rfl) om
  have l1:=P1.len
  have l2:ds.length≤ds1.length:=by obtain ⟨y,rfl⟩:=P1.ext;simp
  obtain ⟨ds2,es2,h2,⟨n2,e2⟩,P2⟩:=ih (i+1) ds1 es1 h1 om P1.tg ⟨ha.1,by omega⟩ om
  refine ⟨ds2,es2,h2,Ev.code ⟨n1+n2,fun m hm=> ?b1⟩,((P1.heap (CK.AT gA) P1.tg ⟨Nat.le_refl _,fun _ _ _ _ q=>q,fun _ _ _=>rfl⟩).trans P2).FP om⟩
  case b1=>
   have e1' :=e1 m om
   have e2' :=e2 m om
   simp only [gO] at oA
   simp -implicitDefEqProofs (disch:=(first|omega|(simp only [aD.aJ,aD.aL];try omega)|skip)) only [d,hia,p7,hst,cA,oA,e1',aI,fE,fG,dV,cT,dU,cS,fF,dR,gV,eQ,aM,dJ,iJ,opA,qS,kE,qT,pL,rJ,sB,dG,gU,fP,qM,mC,iZ,gJ,mK,dM,eZ,Nat.beq,lS,mH,eE,vl,rH,eY,eW,dW,fK,fH,fI,bY,iG,iD,cV,fL,fJ,bZ,iE,cU,cX,dA,cW,fM,dL,eT,eU,bP,iB,gZ,cK,eX,eV,bQ,iA,cJ,cP,cQ,cM,eS,dO,aY,dH,aZ,fB,bV,bR,bW,bT,dP,fD,kE,eN,kL,aT,aV,fO,gX,List.drop_zero,List.drop_succ_cons,rS,oEq,eqA,pR,ki,eP,eH,oneOf,iC,jH,mU,called,List.append_eq,List.nil_append,List.cons_append,List.append_assoc,Nat.zero_add,Nat.add_zero,kN,lK,aQ,aE,aD.aJ,aD.aL,List.length_cons,List.length_nil,Bool.and_true,Bool.true_and,List.all_cons,List.all_nil,bJ,cF,bK,bI,fA,Nat.reduceAdd,Nat.reduceEqDiff,Nat.reduceBEq,ite_true,ite_false,if_true,if_false,iQ,kH,jE,iK,iN,dK,iI,decide_eq_true_eq,decide_true,decide_false,qV,intArith,Int.ofNat_zero,reduceCtorEq,Bool.not_true,Bool.not_false,Bool.false_eq_true,Int.reduceEq,Int.reduceAdd,Int.zero_add,Int.add_zero,lZ,dQ,cR,oG,oI,oJ,oK,kR,iM,qE,iL,jA,qD,iW,jO,iY,pH,fU,eJ,eK,eL,fS,kK,lT,pK,mJ,jU,iV,List.reverse_cons,List.reverse_nil,oS,dD,dZ,dC,eD,bM,jB,eO,qO,oMx,lE,jT,vF,lD,kE,eN,evO,mZ,jL,mX,lH,lQ,oF,oE,gH,fX,dY,iU,uF,dD,dZ,dC,eD,bM,vG,tP,bound,vl,eqA,jC,Int.reduceLE,Int.reduceLT,kJ,jM,aG,aK,dB,aR,kO,iO,jP,kM,lU,takeN,cI,jJ,jQ,iX,eM,gS,fQ,jR,kU,gN,KF,KG]
   rw [sH hlt om]
   exact e2'
theorem CK.refl (B:GB) (h:aD):CK B h h:=⟨Nat.le_refl _,fun _ _ _ _ q=>q,fun _ _ _=>rfl⟩
theorem BL (l:List Part):l.length≤tot l:=by
 induction l with
 |nil=>exact Nat.le_refl 0
 |cons p l ih=>
  have:1≤p.nodes:=by rw [Part.qH];cases p with
   |decl d=>cases d;simp [Part.own];omega
   |_=>simp only [Part.own];omega
  rw [Gl];simp;omega
theorem Tj (H:Has fns orc) {l:List pO} (hE:∀e∈l,wF fns orc (Ow e)) (hO:∀e∈l,∀d∈Je e,HA fns orc d) {B:GB} (hV:∀e∈l,VS B.rt (.exp e)) {v:AV} {xs:List AV} (hx:iP v xs) (hxl:xs.length=l.length)
  (hg:∀i (hi:i<l.length),∃c,xs[i]? =some (.agg c)∧RV (.exp l[i]) (.agg c)) (hn:l.length<5000000) {a:Int}:
  ∀(k i:Nat) (ds:List (Nat×DS)) (es:Es) (h:aD),i+k=l.length→TG B ds es h→ -1≤a∧a<(ds.length:Int)→ds.length+tot ((l.map Part.exp).drop i)<5000000→
   ∃ds' es' h' ts,Ev fns orc (.code 56 none (.loop p56x100) ⟨[(1,.int .i64 a),(2,.ptr B.nb 0),(3,.ptr B.eb 0),(4,.ptr B.ob 0),(11,v),(12,.int .i64 (l.length:Nat)),(13,.int .i64 (i:Nat))],[],.plain,h⟩)
    (.code (.exit 0) ⟨ts,[],.plain,h'⟩)∧wI B ds.length ds es h ds' es' h' (tot ((l.map Part.exp).drop i)):=by
 intro k
 induction k with
 |zero=>
  intro i ds es h hi T ha hb
  have e:i=l.length:=om
  have d:decide ((i:Int)<((l.length:Nat):Int))=false:=dF om
  refine ⟨ds,es,h, ?ts,Ev.code ⟨0,fun m _=> ?b0⟩,(wI.refl T).FP om⟩
  case b0=>
   exact SX (cj2 d @aI)
 |succ k ih=>
  intro i ds es h hi T ha hb
  have hlt:i<l.length:=om
  have d:decide ((i:Int)<((l.length:Nat):Int))=true:=dT om
  obtain ⟨c,hc,rv⟩:=hg i hlt
  have td:=zK (l:=l.map Part.exp) (i:=i) (by simpa using hlt)
  simp only [List.getElem_map] at td
  have hE1:=hE _ (List.getElem_mem hlt)
  have hO1:=hO _ (List.getElem_mem hlt)
  have hV1:=hV _ (List.getElem_mem hlt)
  generalize l[i]=e at rv td hE1 hO1 hV1
  have hcl:=pW rv
  have hck:=IZ rv
  have hia:=kT hx hc hcl
  have p8:takeN 8 c=some c:=by rw [←hcl];exact aW c
  have hst:=mW h (sz:=8) (z:=pY) rfl hcl hck
  obtain ⟨hA,hAe⟩:∃x,x=(h.push (.cells pY)).set h.next (.cells c):=⟨_,rfl⟩
  rw [←hAe] at hst
  simp only [pY] at hst
  have gA:aP h hA:=by rw [hAe];exact gw2
  have nA:hA.next=h.next+1:=by rw [hAe];simp
  have cA:cont hA h.next=some c:=by rw [hAe];exact aG (by simp)
  have TA:=T.grow gA
  obtain ⟨z,hz⟩:=T.n_
  have lnb:=aO hz
  obtain ⟨_,htb,_,_⟩:=T.t_
  have ltb:=aO htb
  have zA:cont hA B.nb=some [.int .i64 z]:=(aF gA lnb).trans hz
  obtain ⟨TB,kB⟩:=TA.num (IntKind.wrap .i64 (z+1))
  obtain ⟨hB,hBe⟩:∃x,x=hA.set B.nb (.cells [.int .i64 (IntKind.wrap .i64 (z+1))]):=⟨_,rfl⟩
  rw [←hBe] at TB kB
  have hsn:=kS (gM zA) (v:= .int .i64 (IntKind.wrap .i64 (z+1))) rfl rfl
  rw [←hBe] at hsn
  have cB:=kB.cells _ _ om om cA
  have eB:=TB.e_
  cases e with|mk k1 k2 k3 k4 k5 t0 al dl=>
  cases rv with|exp r1 r2=>
  rename_i va vd
  simp only [Ow] at hE1
  simp only [Je] at hO1
  rw [PZ] at td
  obtain ⟨ds1,es1,h1,⟨n1,e1⟩,P1⟩:=hE1 B va ds es hB a r1 (fun q hq=>hV1.kid (by simpa [Part.kids] using hq)) TB ha om
  have l1:=P1.len
  have l2:ds.length≤ds1.length:=by obtain ⟨y,rfl⟩:=P1.ext;simp
  have c1:=P1.ck.cells _ _ om om cB
  obtain ⟨ys,hy,hyl,hyg⟩:=jZ r2
  simp only [List.length_map,List.getElem_map] at hyl hyg
  have q2:∀hp,nJ hp .sl vd= .ok dl.length:=fun hp=>by rw [bO hy hp,hyl]
  have lt2:=BL (dl.map Part.desc)
  simp only [List.length_map] at lt2
  obtain ⟨ds2,es2,h2,⟨n2,e2⟩,P2⟩:=Qz H hO1 (fun q hq=>hV1.kid (by simpa [Part.kids] using hq)) hy hyl hyg om (x11:=v) (x12:= .int .i64 (l.length:Nat)) (x13:= .int .i64 (i:Nat)) dl.length 0 ds1 es1 h1 om P1.tg ⟨ha.1,by omega⟩ (by rw [List.drop_zero];omega)
  rw [List.drop_zero] at P2
  have l3:=P2.len
  have l4:ds1.length≤ds2.length:=by obtain ⟨y,rfl⟩:=P2.ext;simp
  obtain ⟨ds3,es3,h3,ts,⟨n3,e3⟩,P3⟩:=ih (i+1) ds2 es2 h2 om P2.tg ⟨ha.1,by omega⟩ om
  refine ⟨ds3,es3,h3,ts,Ev.code ⟨n1+n2+n3+1,fun m hm=> ?b1⟩,((((P1.heap ((CK.AT gA).trans kB) P1.tg (CK.refl _ _)).trans P2).trans P3).FP om)⟩
  case b1=>
   have e1' :=e1 m om
   have e2' :cG (eval fns orc m) 56 none (.loop p56x1001100111100) _=_:=e2 (m+1) om
   have e3' :=e3 m om
   simp only [gE] at eB
   rw [aI]
   simp only [Int.ofNat_zero] at e2'
   simp -implicitDefEqProofs (disch:=(first|omega|(simp only [aD.aJ,aD.aL];try omega)|skip)) only [d,hia,p8,hst,cA,zA,hsn,eB,cB,e1',c1,q2,e2',fE,fG,dV,cT,dU,cS,fF,dR,gV,eQ,aM,dJ,iJ,opA,qS,kE,qT,pL,rJ,sB,dG,gU,fP,qM,mC,iZ,gJ,mK,dM,eZ,Nat.beq,lS,mH,eE,vl,rH,eY,eW,dW,fK,fH,fI,bY,iG,iD,cV,fL,fJ,bZ,iE,cU,cX,dA,cW,fM,dL,eT,eU,bP,iB,gZ,cK,eX,eV,bQ,iA,cJ,cP,cQ,cM,eS,dO,aY,dH,aZ,fB,bV,bR,bW,bT,dP,fD,kE,eN,kL,aT,aV,fO,gX,List.drop_zero,List.drop_succ_cons,rS,oEq,eqA,pR,ki,eP,eH,oneOf,iC,jH,mU,called,List.append_eq,List.nil_append,List.cons_append,List.append_assoc,Nat.zero_add,Nat.add_zero,kN,lK,aQ,aE,aD.aJ,aD.aL,List.length_cons,List.length_nil,Bool.and_true,Bool.true_and,List.all_cons,List.all_nil,bJ,cF,bK,bI,fA,Nat.reduceAdd,Nat.reduceEqDiff,Nat.reduceBEq,ite_true,ite_false,if_true,if_false,iQ,kH,jE,iK,iN,dK,iI,decide_eq_true_eq,decide_true,decide_false,qV,intArith,Int.ofNat_zero,reduceCtorEq,Bool.not_true,Bool.not_false,Bool.false_eq_true,Int.reduceEq,Int.reduceAdd,Int.zero_add,Int.add_zero,lZ,dQ,cR,oG,oI,oJ,oK,kR,iM,qE,iL,jA,qD,iW,jO,iY,pH,fU,eJ,eK,eL,fS,kK,lT,pK,mJ,jU,iV,List.reverse_cons,List.reverse_nil,oS,dD,dZ,dC,eD,bM,jB,eO,qO,oMx,lE,jT,vF,lD,kE,eN,evO,mZ,jL,oF,oE,gH,fX,dY,iU,uF,dD,dZ,dC,eD,bM,vG,tP,bound,vl,eqA,jC,Int.reduceLE,Int.reduceLT,kJ,jM,aG,aK,dB,aR,kO,iO,jP,kM,lU,takeN,cI,jJ,jQ,iX,eM,gS,fQ,jR,kU,gN,KF,KG]
   rw [sH hlt om]
   exact e3'
end Go.Ly
namespace Go.Ly
open Go Go.Am Go.Fs Go.Gn
variable {fns:Go.Am.F} {orc:Orc}
def OQ:qN→List pO| .mk _ _ e _ _ _=>e
def Jw:qN→List vK| .mk _ _ _ c _ _=>c
def OS:qN→List qN| .mk _ _ _ _ _ b=>b
def IC:vK→List pO| .mk v _=>v
def IE:vK→List qN| .mk _ b=>b
theorem wI.Br {B:GB} {k n:Nat} {ds ds1:List (Nat×DS)} {es es1:Es} {h h1:aD} (a:wI B k ds es h ds1 es1 h1 n):ds.length≤ds1.length:=by obtain ⟨y,rfl⟩:=a.ext;simp
theorem wI.before {B:GB} {k n:Nat} {ds ds1:List (Nat×DS)} {es es1:Es} {h h0 h1:aD} (a:wI B k ds es h ds1 es1 h1 n) (c:CK B h0 h):wI B k ds es h0 ds1 es1 h1 n:=a.heap c a.tg (CK.refl _ _)
theorem QB (H:Has fns orc) {l:List vK} (hE:∀e∈l,wF fns orc (IC e)) (hI:∀e∈l,CJ fns orc (IE e)) {B:GB} (hV:∀e∈l,VS B.rt (.case e)) {v:AV} {xs:List AV} (hx:iP v xs) (hxl:xs.length=l.length)
  (hg:∀i (hi:i<l.length),∃c,xs[i]? =some (.agg c)∧RV (.case l[i]) (.agg c)) (hn:l.length<5000000) {a:Int} {x8 x11 x12 x13:AV}:
  ∀(k i:Nat) (ds:List (Nat×DS)) (es:Es) (h:aD),i+k=l.length→TG B ds es h→ -1≤a∧a<(ds.length:Int)→ds.length+tot ((l.map Part.case).drop i)<5000000→
   ∃ds' es' h',Ev fns orc (.code 57 none (.loop p57x10011001110100) ⟨[(1,.int .i64 a),(2,.ptr B.nb 0),(3,.ptr B.eb 0),(4,.ptr B.ib 0),(8,x8),(11,x11),(12,x12),(13,x13),(25,v),(26,.int .i64 (l.length:Nat)),(27,.int .i64 (i:Nat))],[],.plain,h⟩)
    (.code (.exit 2) ⟨[(1,.int .i64 a),(2,.ptr B.nb 0),(3,.ptr B.eb 0),(4,.ptr B.ib 0),(8,x8),(11,x11),(12,x12),(13,x13),(25,v),(26,.int .i64 (l.length:Nat)),(27,.int .i64 (l.length:Nat)),(28,.bool false)],[],.plain,h'⟩)∧
    wI B ds.length ds es h ds' es' h' (tot ((l.map Part.case).drop i)):=by
 intro k
 induction k with
 |zero=>
  intro i ds es h hi T ha hb
  have e:i=l.length:=om
  have d:decide ((i:Int)<((l.length:Nat):Int))=false:=dF om
  refine ⟨ds,es,h,Ev.code ⟨0,fun m _=> ?b0⟩,(wI.refl T).FP om⟩
  case b0=>
   simp -implicitDefEqProofs (disch:=(first|omega|(simp only [aD.aJ,aD.aL];try omega)|skip)) only [d,aI,fE,fG,dV,cT,dU,cS,fF,dR,gV,eQ,aM,dJ,iJ,opA,qS,kE,qT,pL,rJ,sB,dG,gU,fP,qM,mC,iZ,gJ,mK,dM,eZ,Nat.beq,lS,mH,eE,vl,rH,eY,eW,dW,fK,fH,fI,bY,iG,iD,cV,fL,fJ,bZ,iE,cU,cX,dA,cW,fM,dL,eT,eU,bP,iB,gZ,cK,eX,eV,bQ,iA,cJ,cP,cQ,cM,eS,dO,aY,dH,aZ,fB,bV,bR,bW,bT,dP,fD,kE,eN,kL,aT,aV,fO,gX,List.drop_zero,List.drop_succ_cons,rS,oEq,eqA,pR,ki,eP,eH,oneOf,iC,jH,mU,called,List.append_eq,List.nil_append,List.cons_append,List.append_assoc,Nat.zero_add,Nat.add_zero,kN,lK,aQ,aE,aD.aJ,aD.aL,List.length_cons,List.length_nil,Bool.and_true,Bool.true_and,List.all_cons,List.all_nil,bJ,cF,bK,bI,fA,Nat.reduceAdd,Nat.reduceEqDiff,Nat.reduceBEq,ite_true,ite_false,if_true,if_false,iQ,kH,jE,iK,iN,dK,iI,decide_eq_true_eq,decide_true,decide_false,qV,intArith,Int.ofNat_zero,reduceCtorEq,Bool.not_true,Bool.not_false,Bool.false_eq_true,Int.reduceEq,Int.reduceAdd,Int.zero_add,Int.add_zero,lZ,dQ,cR,oG,oI,oJ,oK,kR,iM,qE,iL,jA,qD,iW,jO,iY,pH,fU,eJ,eK,eL,fS,kK,lT,pK,mJ,jU,iV,List.reverse_cons,List.reverse_nil,oS,dD,dZ,dC,eD,bM,jB,jN,kZ,eO,qO,oMx,lE,jT,vF,lD,jN,kZ,kE,eN,evO,mZ,jL,mX,lH,lQ,oF,oE,gH,fX,dY,iU,uF,dD,dZ,dC,eD,bM,vG,tP,bound,vl,eqA,jC,Int.reduceLE,Int.reduceLT,kJ,jM,iS,aG,aK,dB,aR,kO,iO,jP,kM,lU,takeN,cI,jJ,jQ,iX,eM,gS,fQ,jR,kU,gN,KF,KG]
   rw [e]
 |succ k ih=>
  intro i ds es h hi T ha hb
  have hlt:i<l.length:=om
  have d:decide ((i:Int)<((l.length:Nat):Int))=true:=dT om
  obtain ⟨c,hc,rv⟩:=hg i hlt
  have td:=zK (l:=l.map Part.case) (i:=i) (by simpa using hlt)
  simp only [List.getElem_map] at td
  have hE1:=hE _ (List.getElem_mem hlt)
  have hI1:=hI _ (List.getElem_mem hlt)
  have hV1:=hV _ (List.getElem_mem hlt)
  generalize l[i]=e at rv td hE1 hI1 hV1
  have hcl:=xL rv
  have hck:=HO rv
  have hia:=kT hx hc hcl
  have p8:takeN 2 c=some c:=by rw [←hcl];exact aW c
  have hst:=mW h (sz:=2) (z:=lG) rfl hcl hck
  obtain ⟨hA,hAe⟩:∃x,x=(h.push (.cells lG)).set h.next (.cells c):=⟨_,rfl⟩
  rw [←hAe] at hst
  simp only [lG] at hst
  have gA:aP h hA:=by rw [hAe];exact gw2
  have nA:hA.next=h.next+1:=by rw [hAe];simp
  have cA:cont hA h.next=some c:=by rw [hAe];exact aG (by simp)
  have TA:=T.grow gA
  obtain ⟨z,hz⟩:=T.n_
  have lnb:=aO hz
  obtain ⟨_,htb,_,_⟩:=T.t_
  have ltb:=aO htb
  have zA:cont hA B.nb=some [.int .i64 z]:=(aF gA lnb).trans hz
  obtain ⟨TB,kB⟩:=TA.num (IntKind.wrap .i64 (z+1))
  obtain ⟨hB,hBe⟩:∃x,x=hA.set B.nb (.cells [.int .i64 (IntKind.wrap .i64 (z+1))]):=⟨_,rfl⟩
  rw [←hBe] at TB kB
  have hsn:=kS (gM zA) (v:= .int .i64 (IntKind.wrap .i64 (z+1))) rfl rfl
  rw [←hBe] at hsn
  have cB:=kB.cells _ _ om om cA
  have eB:=TB.e_
  cases e with|mk al dl=>
  cases rv with|case r1 r2=>
  rename_i va vd
  simp only [IC] at hE1
  simp only [IE] at hI1
  rw [MZ] at td
  obtain ⟨ds1,es1,h1,⟨n1,e1⟩,P1⟩:=hE1 B va ds es hB a r1 (fun q hq=>hV1.kid (by simpa [Part.kids] using hq)) TB ha om
  have l1:=P1.len
  have l2:=P1.Br
  have c1:=P1.ck.cells _ _ om om cB
  have i1:=P1.tg.i_
  obtain ⟨ds2,es2,h2,⟨n2,e2⟩,P2⟩:=hI1 B vd ds1 es1 h1 a r2 (fun q hq=>hV1.kid (by simpa [Part.kids] using hq)) P1.tg ⟨ha.1,by omega⟩ om
  have l3:=P2.len
  have l4:=P2.Br
  obtain ⟨ds3,es3,h3,⟨n3,e3⟩,P3⟩:=ih (i+1) ds2 es2 h2 om P2.tg ⟨ha.1,by omega⟩ om
  refine ⟨ds3,es3,h3,Ev.code ⟨n1+n2+n3+1,fun m hm=> ?b1⟩,((((P1.before ((CK.AT gA).trans kB)).trans P2).trans P3).FP om)⟩
  case b1=>
   have e1' :=e1 m om
   have e2' :=e2 m om
   have e3' :=e3 m om
   simp only [gE] at eB
   simp only [gI] at i1
   simp -implicitDefEqProofs (disch:=(first|omega|(simp only [aD.aJ,aD.aL];try omega)|skip)) only [d,hia,p8,hst,cA,zA,hsn,eB,cB,e1',c1,i1,e2',aI,fE,fG,dV,cT,dU,cS,fF,dR,gV,eQ,aM,dJ,iJ,opA,qS,kE,qT,pL,rJ,sB,dG,gU,fP,qM,mC,iZ,gJ,mK,dM,eZ,Nat.beq,lS,mH,eE,vl,rH,eY,eW,dW,fK,fH,fI,bY,iG,iD,cV,fL,fJ,bZ,iE,cU,cX,dA,cW,fM,dL,eT,eU,bP,iB,gZ,cK,eX,eV,bQ,iA,cJ,cP,cQ,cM,eS,dO,aY,dH,aZ,fB,bV,bR,bW,bT,dP,fD,kE,eN,kL,aT,aV,fO,gX,List.drop_zero,List.drop_succ_cons,rS,oEq,eqA,pR,ki,eP,eH,oneOf,iC,jH,mU,called,List.append_eq,List.nil_append,List.cons_append,List.append_assoc,Nat.zero_add,Nat.add_zero,kN,lK,aQ,aE,aD.aJ,aD.aL,List.length_cons,List.length_nil,Bool.and_true,Bool.true_and,List.all_cons,List.all_nil,bJ,cF,bK,bI,fA,Nat.reduceAdd,Nat.reduceEqDiff,Nat.reduceBEq,ite_true,ite_false,if_true,if_false,iQ,kH,jE,iK,iN,dK,iI,decide_eq_true_eq,decide_true,decide_false,qV,intArith,Int.ofNat_zero,reduceCtorEq,Bool.not_true,Bool.not_false,Bool.false_eq_true,Int.reduceEq,Int.reduceAdd,Int.zero_add,Int.add_zero,lZ,dQ,cR,oG,oI,oJ,oK,kR,iM,qE,iL,jA,qD,iW,jO,iY,pH,fU,eJ,eK,eL,fS,kK,lT,pK,mJ,jU,iV,List.reverse_cons,List.reverse_nil,oS,dD,dZ,dC,eD,bM,jB,eO,qO,oMx,lE,jT,vF,lD,kE,eN,evO,mZ,jL,oF,oE,gH,fX,dY,iU,uF,dD,dZ,dC,eD,bM,vG,tP,bound,vl,eqA,jC,Int.reduceLE,Int.reduceLT,kJ,jM,aG,aK,dB,aR,kO,iO,jP,kM,lU,takeN,cI,jJ,jQ,iX,eM,gS,fQ,jR,kU,gN,KF,KG]
   rw [sH hlt om]
   exact e3'
theorem Ti (H:Has fns orc) {l:List qN} (hE:∀e∈l,wF fns orc (OQ e)) (hC:∀e∈l,∀c∈Jw e,wF fns orc (IC c)∧CJ fns orc (IE c)) (hI:∀e∈l,CJ fns orc (OS e)) {B:GB} (hV:∀e∈l,VS B.rt (.imp e)) {v:AV} {xs:List AV} (hx:iP v xs) (hxl:xs.length=l.length)
  (hg:∀i (hi:i<l.length),∃c,xs[i]? =some (.agg c)∧RV (.imp l[i]) (.agg c)) (hn:l.length<5000000) {a:Int}:
  ∀(k i:Nat) (ds:List (Nat×DS)) (es:Es) (h:aD),i+k=l.length→TG B ds es h→ -1≤a∧a<(ds.length:Int)→ds.length+tot ((l.map Part.imp).drop i)<5000000→
   ∃ds' es' h' ts,Ev fns orc (.code 57 none (.loop p57x100) ⟨[(1,.int .i64 a),(2,.ptr B.nb 0),(3,.ptr B.eb 0),(4,.ptr B.ib 0),(11,v),(12,.int .i64 (l.length:Nat)),(13,.int .i64 (i:Nat))],[],.plain,h⟩)
    (.code (.exit 0) ⟨ts,[],.plain,h'⟩)∧wI B ds.length ds es h ds' es' h' (tot ((l.map Part.imp).drop i)):=by
 intro k
 induction k with
 |zero=>
  intro i ds es h hi T ha hb
  have e:i=l.length:=om
  have d:decide ((i:Int)<((l.length:Nat):Int))=false:=dF om
  refine ⟨ds,es,h, ?ts,Ev.code ⟨0,fun m _=> ?b0⟩,(wI.refl T).FP om⟩
  case b0=>
   exact SX (cj2 d @aI)
 |succ k ih=>
  intro i ds es h hi T ha hb
  have hlt:i<l.length:=om
  have d:decide ((i:Int)<((l.length:Nat):Int))=true:=dT om
  obtain ⟨c,hc,rv⟩:=hg i hlt
  have td:=zK (l:=l.map Part.imp) (i:=i) (by simpa using hlt)
  simp only [List.getElem_map] at td
  have hE1:=hE _ (List.getElem_mem hlt)
  have hC1:=hC _ (List.getElem_mem hlt)
  have hI1:=hI _ (List.getElem_mem hlt)
  have hV1:=hV _ (List.getElem_mem hlt)
  generalize l[i]=e at rv td hE1 hC1 hI1 hV1
  have hcl:=yR rv
  have hck:=IY rv
  have hia:=kT hx hc hcl
  have p8:takeN 6 c=some c:=by rw [←hcl];exact aW c
  have hst:=mW h (sz:=6) (z:=pX) rfl hcl hck
  obtain ⟨hA,hAe⟩:∃x,x=(h.push (.cells pX)).set h.next (.cells c):=⟨_,rfl⟩
  rw [←hAe] at hst
  simp only [pX] at hst
  have gA:aP h hA:=by rw [hAe];exact gw2
  have nA:hA.next=h.next+1:=by rw [hAe];simp
  have cA:cont hA h.next=some c:=by rw [hAe];exact aG (by simp)
  have TA:=T.grow gA
  obtain ⟨z,hz⟩:=T.n_
  have lnb:=aO hz
  obtain ⟨_,htb,_,_⟩:=T.t_
  have ltb:=aO htb
  have zA:cont hA B.nb=some [.int .i64 z]:=(aF gA lnb).trans hz
  obtain ⟨TB,kB⟩:=TA.num (IntKind.wrap .i64 (z+1))
  obtain ⟨hB,hBe⟩:∃x,x=hA.set B.nb (.cells [.int .i64 (IntKind.wrap .i64 (z+1))]):=⟨_,rfl⟩
  rw [←hBe] at TB kB
  have hsn:=kS (gM zA) (v:= .int .i64 (IntKind.wrap .i64 (z+1))) rfl rfl
  rw [←hBe] at hsn
  have cB:=kB.cells _ _ om om cA
  have eB:=TB.e_
  cases e with|mk k1 nm el cl he bl=>
  cases rv with|imp r1 r2 r3=>
  rename_i ve vc vi
  simp only [OQ] at hE1
  simp only [Jw] at hC1
  simp only [OS] at hI1
  rw [PY] at td
  obtain ⟨ds1,es1,h1,⟨n1,e1⟩,P1⟩:=hE1 B ve ds es hB a r1 (fun q hq=>hV1.kid (by simpa [Part.kids] using hq)) TB ha om
  have l1:=P1.len
  have l2:=P1.Br
  have c1:=P1.ck.cells _ _ om om cB
  obtain ⟨ys,hy,hyl,hyg⟩:=jZ r2
  simp only [List.length_map,List.getElem_map] at hyl hyg
  have q2:∀hp,nJ hp .sl vc= .ok cl.length:=fun hp=>by rw [bO hy hp,hyl]
  have lt2:=BL (cl.map Part.case)
  simp only [List.length_map] at lt2
  obtain ⟨ds2,es2,h2,⟨n2,e2⟩,P2⟩:=QB H (fun q hq=>(hC1 q hq).1) (fun q hq=>(hC1 q hq).2) (fun q hq=>hV1.kid (by simpa [Part.kids] using hq)) hy hyl hyg om (x8:= .ptr h.next 0) (x11:=v) (x12:= .int .i64 (l.length:Nat)) (x13:= .int .i64 (i:Nat)) cl.length 0 ds1 es1 h1 om P1.tg ⟨ha.1,by omega⟩ (by rw [List.drop_zero];omega)
  rw [List.drop_zero] at P2
  have l3:=P2.len
  have l4:=P2.Br
  have c2:=P2.ck.cells _ _ om om c1
  have i2:=P2.tg.i_
  obtain ⟨ds3,es3,h3,⟨n3,e3⟩,P3⟩:=hI1 B vi ds2 es2 h2 a r3 (fun q hq=>hV1.kid (by simpa [Part.kids] using hq)) P2.tg ⟨ha.1,by omega⟩ om
  have l5:=P3.len
  have l6:=P3.Br
  obtain ⟨ds4,es4,h4,ts,⟨n4,e4⟩,P4⟩:=ih (i+1) ds3 es3 h3 om P3.tg ⟨ha.1,by omega⟩ om
  refine ⟨ds4,es4,h4,ts,Ev.code ⟨n1+n2+n3+n4+1,fun m hm=> ?b1⟩,(((((P1.before ((CK.AT gA).trans kB)).trans P2).trans P3).trans P4).FP om)⟩
  case b1=>
   have e1' :=e1 m om
   have e2' :cG (eval fns orc m) 57 none (.loop p57x10011001110100) _=_:=e2 (m+1) om
   have e3' :=e3 m om
   have e4' :=e4 m om
   simp only [gE] at eB
   simp only [gI] at i2
   rw [aI]
   simp only [Int.ofNat_zero] at e2'
   simp -implicitDefEqProofs (disch:=(first|omega|(simp only [aD.aJ,aD.aL];try omega)|skip)) only [d,hia,p8,hst,cA,zA,hsn,eB,cB,e1',c1,q2,e2',c2,i2,e3',fE,fG,dV,cT,dU,cS,fF,dR,gV,eQ,aM,dJ,iJ,opA,qS,kE,qT,pL,rJ,sB,dG,gU,fP,qM,mC,iZ,gJ,mK,dM,eZ,Nat.beq,lS,mH,eE,vl,rH,eY,eW,dW,fK,fH,fI,bY,iG,iD,cV,fL,fJ,bZ,iE,cU,cX,dA,cW,fM,dL,eT,eU,bP,iB,gZ,cK,eX,eV,bQ,iA,cJ,cP,cQ,cM,eS,dO,aY,dH,aZ,fB,bV,bR,bW,bT,dP,fD,kE,eN,kL,aT,aV,fO,gX,List.drop_zero,List.drop_succ_cons,rS,oEq,eqA,pR,ki,eP,eH,oneOf,iC,jH,mU,called,List.append_eq,List.nil_append,List.cons_append,List.append_assoc,Nat.zero_add,Nat.add_zero,kN,lK,aQ,aE,aD.aJ,aD.aL,List.length_cons,List.length_nil,Bool.and_true,Bool.true_and,List.all_cons,List.all_nil,bJ,cF,bK,bI,fA,Nat.reduceAdd,Nat.reduceEqDiff,Nat.reduceBEq,ite_true,ite_false,if_true,if_false,iQ,kH,jE,iK,iN,dK,iI,decide_eq_true_eq,decide_true,decide_false,qV,intArith,Int.ofNat_zero,reduceCtorEq,Bool.not_true,Bool.not_false,Bool.false_eq_true,Int.reduceEq,Int.reduceAdd,Int.zero_add,Int.add_zero,lZ,dQ,cR,oG,oI,oJ,oK,kR,iM,qE,iL,jA,qD,iW,jO,iY,pH,fU,eJ,eK,eL,fS,kK,lT,pK,mJ,jU,iV,List.reverse_cons,List.reverse_nil,oS,dD,dZ,dC,eD,bM,jB,eO,qO,oMx,lE,jT,vF,lD,kE,eN,evO,mZ,jL,oF,oE,gH,fX,dY,iU,uF,dD,dZ,dC,eD,bM,vG,tP,bound,vl,eqA,jC,Int.reduceLE,Int.reduceLT,kJ,jM,aG,aK,dB,aR,kO,iO,jP,kM,lU,takeN,cI,jJ,jQ,iX,eM,gS,fQ,jR,kU,gN,KF,KG]
   rw [sH hlt om]
   exact e4'
theorem Tu (H:Has fns orc) {l:List pO} (hE:∀e∈l,wF fns orc (Ow e)) (hO:∀e∈l,∀d∈Je e,HA fns orc d):wF fns orc l:=by
 intro B v ds es h a hv hV T ha hb
 obtain ⟨ys,hy,hyl,hyg⟩:=jZ hv
 simp only [List.length_map,List.getElem_map] at hyl hyg
 have q2:∀hp,nJ hp .sl v= .ok l.length:=fun hp=>by rw [bO hy hp,hyl]
 have lt2:=BL (l.map Part.exp)
 simp only [List.length_map] at lt2
 obtain ⟨ds1,es1,h1,ts,⟨n1,e1⟩,P1⟩:=Tj H hE hO hV hy hyl hyg om (a:=a) l.length 0 ds es h om T ha (by rw [List.drop_zero];omega)
 rw [List.drop_zero] at P1
 refine ⟨ds1,es1,h1,Ev.call H.f56 H.o56 ⟨n1,fun m hm=> ?b1⟩,P1⟩
 case b1=>
  have e1' :cG (eval fns orc m) 56 none (.loop p56x100) _=_:=e1 (m+1) om
  simp only [Int.ofNat_zero] at e1'
  exact SM (cj3 @a56.eq_1 q2 e1')
theorem Sz (H:Has fns orc) {l:List qN} (hE:∀e∈l,wF fns orc (OQ e)) (hC:∀e∈l,∀c∈Jw e,wF fns orc (IC c)∧CJ fns orc (IE c)) (hI:∀e∈l,CJ fns orc (OS e)):CJ fns orc l:=by
 intro B v ds es h a hv hV T ha hb
 obtain ⟨ys,hy,hyl,hyg⟩:=jZ hv
 simp only [List.length_map,List.getElem_map] at hyl hyg
 have q2:∀hp,nJ hp .sl v= .ok l.length:=fun hp=>by rw [bO hy hp,hyl]
 have lt2:=BL (l.map Part.imp)
 simp only [List.length_map] at lt2
 obtain ⟨ds1,es1,h1,ts,⟨n1,e1⟩,P1⟩:=Ti H hE hC hI hV hy hyl hyg om (a:=a) l.length 0 ds es h om T ha (by rw [List.drop_zero];omega)
 rw [List.drop_zero] at P1
 refine ⟨ds1,es1,h1,Ev.call H.f57 H.o57 ⟨n1,fun m hm=> ?b1⟩,P1⟩
 case b1=>
  have e1' :cG (eval fns orc m) 57 none (.loop p57x100) _=_:=e1 (m+1) om
  simp only [Int.ofNat_zero] at e1'
  exact SM (cj3 @a57.eq_1 q2 e1')
end Go.Ly
namespace Go.Ly
open Go Go.Am Go.Fs Go.Gn
variable {fns:Go.Am.F} {orc:Orc}
theorem TG.upd {B:GB} {ds:List (Nat×DS)} {es es2:Es} {h:aD} (T:TG B ds es h) (g:GOk (ds.map Prod.snd) es2) (c:Nat):TG B ds es2 (h.set B.mb (.map es2 c))∧CK B h (h.set B.mb (.map es2 c)):=by
 obtain ⟨clk,hm⟩:=T.m_
 have hl:=aD.mN hm
 have q:∀{i c'},cont h i=some c' →cont (h.set B.mb (.map es2 c)) i=some c' :=by
  intro i c' w
  rw [aK hl ?_]
  ·exact w
  ·rintro rfl
   rw [gM w] at hm
   cases hm
 obtain ⟨z,hz⟩:=T.n_
 refine ⟨⟨q T.p_,⟨z,q hz⟩,q T.e_,q T.i_,q T.o_, ?_,⟨c,aQ _ _ _ hl⟩,fun e he=>⟨q (T.d_ e he).1,(T.d_ e he).2⟩,T.bs,g,T.w_⟩,⟨by simp,fun i c' _ _ w=>q w,fun i hi _=>aE _ _ _ _ hl (by have:=T.bs.2.2;omega)⟩⟩
 obtain ⟨sl,h1,h2,h3⟩:=T.t_
 refine ⟨sl,q h1, ?_,h3⟩
 generalize ds.map (fun e=>AV.ptr e.1 0)=xs at h2
 cases h2 with
 |nil=>exact .nil
 |opn t xs ht hp=>
  refine .opn t _ ?_ hp
  rw [aE _ _ _ _ hl ?_]
  ·exact ht
  ·rintro rfl
   rw [ht] at hm
   cases hm
theorem Wl {B:GB} {ds:List (Nat×DS)} {es:Es} {h:aD} (T:TG B ds es h) {o i v:Nat} {D E:DS} (ho:(ds.map Prod.snd)[o]? =some D) (hv:(ds.map Prod.snd)[v]? =some E) (ha:E.ar=(o:Int)) (hd:(aU D.pd)[i]? =some E.ow) (hp:E.pd∈qP E.ow):
  ∃es2 c,lQ h (.cells [.int,.int]) (.map B.mb) (.agg [.int .i64 (o:Int),.int .i64 (i:Int)]) (.int .i64 (v:Int))= .ok (.skip (h.set B.mb (.map es2 c)))∧GOk (ds.map Prod.snd) es2∧(∀e∈es,∃e' ∈es2,e'.1=e.1)∧∃e∈es2,e.1=key o i:=by
 obtain ⟨clk,hm⟩:=T.m_
 have kk:∀e∈es,∃p j,e.1=key p j:=fun e he=>by
  obtain ⟨o',i',_,_,_,h1,_⟩:=T.g_.es e he
  exact ⟨o',i',h1⟩
 have Yi:(.agg [.int .i64 (o:Int),.int .i64 (i:Int)]:AV)=key o i:=rfl
 have se:eqA (.cells [.int,.int]) (key o i) (key o i)= .ok true:=by rw [ki2];simp
 rcases Ha o i es 0 kk with ⟨h1,h2⟩|⟨j,w,b,h1,h2⟩
 ·refine ⟨es++[(key o i,.int .i64 (v:Int),clk)],clk+1, ?_,⟨T.g_.ar,T.g_.ok,fun e he=> ?_⟩,fun e he=>⟨e,List.mem_append_left _ he,rfl⟩,_,List.mem_append_right _ (List.mem_singleton.2 rfl),rfl⟩
  ·simp only [lQ,hm,Yi,se,h1,aM]
  ·rcases List.mem_append.1 he with q|q
   ·exact T.g_.es e q
   ·rw [List.mem_singleton.1 q]
    exact ⟨o,i,v,D,E,rfl,rfl,ho,hv,ha,hd,hp⟩
 ·rw [Nat.zero_add] at h1
  obtain ⟨k1,k2⟩:=Dg (key o i) (.int .i64 (v:Int)) j es w b h2
  refine ⟨pF (key o i) (.int .i64 (v:Int)) j es,clk, ?_,⟨T.g_.ar,T.g_.ok,fun e he=> ?_⟩,k1,k2⟩
  ·simp only [lQ,hm,Yi,se,h1,aM]
  ·rcases Eb _ _ _ _ _ he with q|⟨b',rfl⟩
   ·exact T.g_.es e q
   ·exact ⟨o,i,v,D,E,rfl,rfl,ho,hv,ha,hd,hp⟩
theorem Nu (H:Has fns orc) {x:kV} {dl:List pD} (hO:∀d∈dl,HA fns orc d) {B:GB} (hV:∀d∈dl,VS B.rt (.desc d)) (hdl:∀d∈dl,d∈qP x) {vd:AV} {xs:List AV} (hx:iP vd xs) (hxl:xs.length=dl.length)
  (hg:∀i (hi:i<dl.length),∃c,xs[i]? =some (.agg c)∧RV (.desc dl[i]) (.agg c)) (hn:dl.length<5000000) {o ix b14:Nat} {cx:List AV} (rx:RV (.decl x) (.agg cx)) (nb:b14≠B.nb) (nt:b14≠B.tb) {D:DS} (hd:(aU D.pd)[ix]? =some x) {x8 x45 x46 x47:AV}:
  ∀(k i:Nat) (ds:List (Nat×DS)) (es:Es) (h:aD),i+k=dl.length→TG B ds es h→(ds.map Prod.snd)[o]? =some D→cont h b14=some cx→ds.length+tot ((dl.map Part.desc).drop i)<5000000→
   ∃ds' es' h',Ev fns orc (.code 58 none (.loop p58x11111010011001111100) ⟨[(3,.ptr B.pb 0),(4,.ptr B.nb 0),(5,.ptr B.eb 0),(6,.ptr B.ob 0),(7,.ptr B.ib 0),(8,x8),(12,.int .i64 (o:Int)),(13,.int .i64 (ix:Int)),(14,.ptr b14 0),(45,x45),(46,x46),(47,x47),(65,vd),(66,.int .i64 (dl.length:Nat)),(67,.int .i64 (i:Nat))],[],.plain,h⟩)
    (.code (.exit 2) ⟨[(3,.ptr B.pb 0),(4,.ptr B.nb 0),(5,.ptr B.eb 0),(6,.ptr B.ob 0),(7,.ptr B.ib 0),(8,x8),(12,.int .i64 (o:Int)),(13,.int .i64 (ix:Int)),(14,.ptr b14 0),(45,x45),(46,x46),(47,x47),(65,vd),(66,.int .i64 (dl.length:Nat)),(67,.int .i64 (dl.length:Nat)),(68,.bool false)],[],.plain,h'⟩)∧
    wI B ds.length ds es h ds' es' h' (tot ((dl.map Part.desc).drop i))∧(i<dl.length→∃e∈es',e.1=key o ix):=by
 intro k
 induction k with
 |zero=>
  intro i ds es h hi T ho hcb hb
  have e:i=dl.length:=om
  have d:decide ((i:Int)<((dl.length:Nat):Int))=false:=dF om
  refine ⟨ds,es,h,Ev.code ⟨0,fun m _=> ?b0⟩,(wI.refl T).FP om,fun q=>by omega⟩
  case b0=>
   simp -implicitDefEqProofs (disch:=(first|omega|(simp only [aD.aJ,aD.aL];try omega)|skip)) only [d,aI,fE,fG,dV,cT,dU,cS,fF,dR,gV,eQ,aM,dJ,iJ,opA,qS,kE,qT,pL,rJ,sB,dG,gU,fP,qM,mC,iZ,gJ,mK,dM,eZ,Nat.beq,lS,mH,eE,vl,rH,eY,eW,dW,fK,fH,fI,bY,iG,iD,cV,fL,fJ,bZ,iE,cU,cX,dA,cW,fM,dL,eT,eU,bP,iB,gZ,cK,eX,eV,bQ,iA,cJ,cP,cQ,cM,eS,dO,aY,dH,aZ,fB,bV,bR,bW,bT,dP,fD,kE,eN,kL,aT,aV,fO,gX,List.drop_zero,List.drop_succ_cons,rS,oEq,eqA,pR,ki,eP,eH,oneOf,iC,jH,mU,called,List.append_eq,List.nil_append,List.cons_append,List.append_assoc,Nat.zero_add,Nat.add_zero,kN,lK,aQ,aE,aD.aJ,aD.aL,List.length_cons,List.length_nil,Bool.and_true,Bool.true_and,List.all_cons,List.all_nil,bJ,cF,bK,bI,fA,Nat.reduceAdd,Nat.reduceEqDiff,Nat.reduceBEq,ite_true,ite_false,if_true,if_false,iQ,kH,jE,iK,iN,dK,iI,decide_eq_true_eq,decide_true,decide_false,qV,intArith,Int.ofNat_zero,reduceCtorEq,Bool.not_true,Bool.not_false,Bool.false_eq_true,Int.reduceEq,Int.reduceAdd,Int.zero_add,Int.add_zero,lZ,dQ,cR,oG,oI,oJ,oK,kR,iM,qE,iL,jA,qD,iW,jO,iY,pH,fU,eJ,eK,eL,fS,kK,lT,pK,mJ,jU,iV,List.reverse_cons,List.reverse_nil,oS,dD,dZ,dC,eD,bM,jB,jN,kZ,eO,qO,oMx,lE,jT,vF,lD,jN,kZ,kE,eN,evO,mZ,jL,mX,lH,lQ,oF,oE,gH,fX,dY,iU,uF,dD,dZ,dC,eD,bM,vG,tP,bound,vl,eqA,jC,Int.reduceLE,Int.reduceLT,kJ,jM,iS,aG,aK,dB,aR,kO,iO,jP,kM,lU,takeN,cI,jJ,jQ,iX,eM,gS,fQ,jR,kU,gN,KF,KG]
   rw [e]
 |succ k ih=>
  intro i ds es h hi T ho hcb hb
  have hlt:i<dl.length:=om
  have d:decide ((i:Int)<((dl.length:Nat):Int))=true:=dT om
  obtain ⟨c,hc,rv⟩:=hg i hlt
  have hcl:=kW rv
  have hck:=A5 rv
  have hia:=kT hx hc hcl
  have p7:takeN 7 c=some c:=by rw [←hcl];exact aW c
  have p5:takeN 5 cx=some cx:=by rw [←pG rx];exact aW cx
  have q7:dX (.agg c) (.agg c)=true:=AR rv
  have q5:dX (.agg cx) (.agg cx)=true:=AR rx
  have hst:=mW h (sz:=7) (z:=kD) rfl hcl hck
  obtain ⟨hA,hAe⟩:∃x,x=(h.push (.cells kD)).set h.next (.cells c):=⟨_,rfl⟩
  rw [←hAe] at hst
  simp only [kD] at hst
  have gA:aP h hA:=by rw [hAe];exact gw2
  have cA:cont hA h.next=some c:=by rw [hAe];exact aG (by simp)
  have bA:cont hA b14=some cx:=(aF gA (aO hcb)).trans hcb
  have TA:=T.grow gA
  have oA:=TA.o_
  have pA:=TA.p_
  obtain ⟨sl,tA,_,_⟩:=TA.t_
  have td:=zK (l:=dl.map Part.desc) (i:=i) (by simpa using hlt)
  simp only [List.getElem_map] at td
  have ol:o<ds.length:=by
   have:=(List.getElem?_eq_some_iff.1 ho).1
   simpa using this
  obtain ⟨ds1,es1,h1,lo,D1,⟨n1,e1⟩,P1,hD1,hD2,hD3,hD4⟩:=hO _ (List.getElem_mem hlt) B c x cx ds es hA o rv rx (hV _ (List.getElem_mem hlt)) TA ⟨by omega,by omega⟩ (.inr om) om
  have l1:=P1.len
  have l2:=P1.Br
  have p1:=P1.tg.p_
  obtain ⟨sl1,t1,_,_⟩:=P1.tg.t_
  have o1:(ds1.map Prod.snd)[o]? =some D:=by
   obtain ⟨y,rfl⟩:=P1.ext
   rw [List.map_append,List.getElem?_append_left (by simpa using ol)]
   exact ho
  obtain ⟨es2,clk,hmu,g2,k2,w2⟩:=Wl P1.tg (o:=o) (i:=ix) (v:=ds.length) o1 (by rw [List.getElem?_map,hD1];rfl) hD4 (by rw [hD3];exact hd) (by rw [hD2,hD3];exact hdl _ (List.getElem_mem hlt))
  obtain ⟨T2,c2⟩:=P1.tg.upd g2 clk
  obtain ⟨h2,h2e⟩:∃x,x=h1.set B.mb (.map es2 clk):=⟨_,rfl⟩
  rw [←h2e] at T2 c2 hmu
  have P2:wI B ds1.length ds1 es1 h1 ds1 es2 h2 0:=⟨T2,c2,⟨[],by simp⟩,by omega,k2,fun j hj hl=>by omega⟩
  have b2:=c2.cells _ _ nb nt (P1.ck.cells _ _ nb nt bA)
  obtain ⟨ds3,es3,h3,⟨n3,e3⟩,P3,w3⟩:=ih (i+1) ds1 es2 h2 om T2 o1 b2 om
  refine ⟨ds3,es3,h3,Ev.code ⟨n1+n3,fun m hm=> ?b1⟩,(((P1.before (CK.AT gA)).trans P2).trans P3).FP om,fun _=> ?w⟩
  case w=>
   obtain ⟨e,q1,q2⟩:=w2
   obtain ⟨e',q3,q4⟩:=P3.keys e q1
   exact ⟨e',q3,q4.trans q2⟩
  case b1=>
   have e1' :=e1 m om
   have e3' :=e3 m om
   simp only [gO] at oA
   simp -implicitDefEqProofs (disch:=(first|omega|(simp only [aD.aJ,aD.aL];try omega)|skip)) only [d,hia,p7,p5,q7,q5,hst,cA,bA,oA,pA,tA,e1',p1,t1,hmu,aI,fE,fG,dV,cT,dU,cS,fF,dR,gV,eQ,aM,dJ,iJ,opA,qS,kE,qT,pL,rJ,sB,dG,gU,fP,qM,mC,iZ,gJ,mK,dM,eZ,Nat.beq,lS,mH,eE,vl,rH,eY,eW,dW,fK,fH,fI,bY,iG,iD,cV,fL,fJ,bZ,iE,cU,cX,dA,cW,fM,dL,eT,eU,bP,iB,gZ,cK,eX,eV,bQ,iA,cJ,cP,cQ,cM,eS,dO,aY,dH,aZ,fB,bV,bR,bW,bT,dP,fD,kE,eN,kL,aT,aV,fO,gX,List.drop_zero,List.drop_succ_cons,rS,oEq,eqA,pR,ki,eP,eH,oneOf,iC,jH,mU,called,List.append_eq,List.nil_append,List.cons_append,List.append_assoc,Nat.zero_add,Nat.add_zero,kN,lK,aQ,aE,aD.aJ,aD.aL,List.length_cons,List.length_nil,Bool.and_true,Bool.true_and,List.all_cons,List.all_nil,bJ,cF,bK,bI,fA,Nat.reduceAdd,Nat.reduceEqDiff,Nat.reduceBEq,ite_true,ite_false,if_true,if_false,iQ,kH,jE,iK,iN,dK,iI,decide_eq_true_eq,decide_true,decide_false,qV,intArith,Int.ofNat_zero,reduceCtorEq,Bool.not_true,Bool.not_false,Bool.false_eq_true,Int.reduceEq,Int.reduceAdd,Int.zero_add,Int.add_zero,lZ,dQ,cR,oG,oI,oJ,oK,kR,iM,qE,iL,jA,qD,iW,jO,iY,pH,fU,eJ,eK,eL,fS,kK,lT,pK,mJ,jU,iV,List.reverse_cons,List.reverse_nil,oS,dD,dZ,dC,eD,bM,jB,eO,qO,oMx,lE,jT,vF,lD,kE,eN,evO,mZ,jL,oF,oE,gH,fX,dY,iU,uF,dD,dZ,dC,eD,bM,vG,tP,bound,vl,eqA,jC,Int.reduceLE,Int.reduceLT,kJ,jM,aG,aK,dB,aR,kO,iO,jP,kM,lU,takeN,cI,jJ,jQ,iX,eM,gS,fQ,jR,kU,gN,KF,KG]
   rw [sH hlt om]
   exact e3'
end Go.Ly
namespace Go.Ly
open Go Go.Am Go.Fs Go.Gn
variable {fns:Go.Am.F} {orc:Orc}
def Pc:kV→List pO| .mk _ _ s _ _=>s
theorem QA (H:Has fns orc) {l:List kV} (hS:∀x∈l,wF fns orc (Pc x)) (hP:∀x∈l,wF fns orc (wM x)) (hO:∀x∈l,∀d∈qP x,HA fns orc d) {B:GB} (hV:∀x∈l,VS B.rt (.decl x)) {vd:AV} {xs:List AV} (hx:iP vd xs) (hxl:xs.length=l.length)
  (hg:∀i (hi:i<l.length),∃c,xs[i]? =some (.agg c)∧RV (.decl l[i]) (.agg c)) (hn:l.length<5000000) {o:Nat} {D:DS} (hd:aU D.pd=l) {x8:AV}:
  ∀(k i:Nat) (ds:List (Nat×DS)) (es:Es) (h:aD),i+k=l.length→TG B ds es h→(ds.map Prod.snd)[o]? =some D→ds.length+tot ((l.map Part.decl).drop i)<5000000→(∀j d,j<i→l[j]? =some d→qP d≠[]→∃e∈es,e.1=key o j)→
   ∃ds' es' h',Ev fns orc (.code 58 none (.loop p58x111110100) ⟨[(3,.ptr B.pb 0),(4,.ptr B.nb 0),(5,.ptr B.eb 0),(6,.ptr B.ob 0),(7,.ptr B.ib 0),(8,x8),(12,.int .i64 (o:Int)),(45,vd),(46,.int .i64 (l.length:Nat)),(47,.int .i64 (i:Nat))],[],.plain,h⟩)
    (.code (.exit 0) ⟨[(3,.ptr B.pb 0),(4,.ptr B.nb 0),(5,.ptr B.eb 0),(6,.ptr B.ob 0),(7,.ptr B.ib 0),(8,x8),(12,.int .i64 (o:Int)),(45,vd),(46,.int .i64 (l.length:Nat)),(47,.int .i64 (l.length:Nat)),(48,.bool false)],[],.plain,h'⟩)∧
    wI B ds.length ds es h ds' es' h' (tot ((l.map Part.decl).drop i))∧(∀j d,l[j]? =some d→qP d≠[]→∃e∈es',e.1=key o j):=by
 intro k
 induction k with
 |zero=>
  intro i ds es h hi T ho hb hk
  have e:i=l.length:=om
  have d:decide ((i:Int)<((l.length:Nat):Int))=false:=dF om
  refine ⟨ds,es,h,Ev.code ⟨0,fun m _=> ?b0⟩,(wI.refl T).FP om,fun j d hj hc=>hk j d (by have:=(List.getElem?_eq_some_iff.1 hj).1;omega) hj hc⟩
  case b0=>
   simp -implicitDefEqProofs (disch:=(first|omega|(simp only [aD.aJ,aD.aL];try omega)|skip)) only [d,aI,fE,fG,dV,cT,dU,cS,fF,dR,gV,eQ,aM,dJ,iJ,opA,qS,kE,qT,pL,rJ,sB,dG,gU,fP,qM,mC,iZ,gJ,mK,dM,eZ,Nat.beq,lS,mH,eE,vl,rH,eY,eW,dW,fK,fH,fI,bY,iG,iD,cV,fL,fJ,bZ,iE,cU,cX,dA,cW,fM,dL,eT,eU,bP,iB,gZ,cK,eX,eV,bQ,iA,cJ,cP,cQ,cM,eS,dO,aY,dH,aZ,fB,bV,bR,bW,bT,dP,fD,kE,eN,kL,aT,aV,fO,gX,List.drop_zero,List.drop_succ_cons,rS,oEq,eqA,pR,ki,eP,eH,oneOf,iC,jH,mU,called,List.append_eq,List.nil_append,List.cons_append,List.append_assoc,Nat.zero_add,Nat.add_zero,kN,lK,aQ,aE,aD.aJ,aD.aL,List.length_cons,List.length_nil,Bool.and_true,Bool.true_and,List.all_cons,List.all_nil,bJ,cF,bK,bI,fA,Nat.reduceAdd,Nat.reduceEqDiff,Nat.reduceBEq,ite_true,ite_false,if_true,if_false,iQ,kH,jE,iK,iN,dK,iI,decide_eq_true_eq,decide_true,decide_false,qV,intArith,Int.ofNat_zero,reduceCtorEq,Bool.not_true,Bool.not_false,Bool.false_eq_true,Int.reduceEq,Int.reduceAdd,Int.zero_add,Int.add_zero,lZ,dQ,cR,oG,oI,oJ,oK,kR,iM,qE,iL,jA,qD,iW,jO,iY,pH,fU,eJ,eK,eL,fS,kK,lT,pK,mJ,jU,iV,List.reverse_cons,List.reverse_nil,oS,dD,dZ,dC,eD,bM,jB,jN,kZ,eO,qO,oMx,lE,jT,vF,lD,jN,kZ,kE,eN,evO,mZ,jL,mX,lH,lQ,oF,oE,gH,fX,dY,iU,uF,dD,dZ,dC,eD,bM,vG,tP,bound,vl,eqA,jC,Int.reduceLE,Int.reduceLT,kJ,jM,iS,aG,aK,dB,aR,kO,iO,jP,kM,lU,takeN,cI,jJ,jQ,iX,eM,gS,fQ,jR,kU,gN,KF,KG]
   rw [e]
 |succ k ih=>
  intro i ds es h hi T ho hb hk
  have hlt:i<l.length:=om
  have d:decide ((i:Int)<((l.length:Nat):Int))=true:=dT om
  obtain ⟨c,hc,rv⟩:=hg i hlt
  have td:=zK (l:=l.map Part.decl) (i:=i) (by simpa using hlt)
  simp only [List.getElem_map] at td
  have hS1:=hS _ (List.getElem_mem hlt)
  have hP1:=hP _ (List.getElem_mem hlt)
  have hO1:=hO _ (List.getElem_mem hlt)
  have hV1:=hV _ (List.getElem_mem hlt)
  have hgi:l[i]? =some l[i]:=List.getElem?_eq_getElem hlt
  generalize l[i]=e at rv td hS1 hP1 hO1 hV1 hgi
  have hcl:=pG rv
  have hck:=uG rv
  have hia:=kT hx hc hcl
  have p8:takeN 5 c=some c:=by rw [←hcl];exact aW c
  have hst:=mW h (sz:=5) (z:=kF) rfl hcl hck
  obtain ⟨hA,hAe⟩:∃x,x=(h.push (.cells kF)).set h.next (.cells c):=⟨_,rfl⟩
  rw [←hAe] at hst
  simp only [kF] at hst
  have gA:aP h hA:=by rw [hAe];exact gw2
  have nA:hA.next=h.next+1:=by rw [hAe];simp
  have cA:cont hA h.next=some c:=by rw [hAe];exact aG (by simp)
  have TA:=T.grow gA
  obtain ⟨z,hz⟩:=T.n_
  have lnb:=aO hz
  obtain ⟨_,htb,_,_⟩:=T.t_
  have ltb:=aO htb
  have ol:o<ds.length:=by
   have:=(List.getElem?_eq_some_iff.1 ho).1
   simpa using this
  have zA:cont hA B.nb=some [.int .i64 z]:=(aF gA lnb).trans hz
  obtain ⟨TB,kB⟩:=TA.num (IntKind.wrap .i64 (z+1))
  obtain ⟨hB,hBe⟩:∃x,x=hA.set B.nb (.cells [.int .i64 (IntKind.wrap .i64 (z+1))]):=⟨_,rfl⟩
  rw [←hBe] at TB kB
  have hsn:=kS (gM zA) (v:= .int .i64 (IntKind.wrap .i64 (z+1))) rfl rfl
  rw [←hBe] at hsn
  have cB:=kB.cells _ _ om om cA
  have eB:=TB.e_
  have rvx:=rv
  have hde:(aU D.pd)[i]? =some e:=by rw [hd];exact hgi
  cases e with|mk k1 nm sl pl dl=>
  cases rv with|decl r0 r1 r2 r3=>
  rename_i vn vs vp vy
  simp only [Pc] at hS1
  simp only [wM] at hP1
  simp only [qP] at hO1
  rw [GG] at td
  obtain ⟨ds1,es1,h1,⟨n1,e1⟩,P1⟩:=hS1 B vs ds es hB o r1 (fun q hq=>hV1.kid (by simpa [Part.kids] using .inl hq)) TB ⟨by omega,by omega⟩ om
  have l1:=P1.len
  have l2:=P1.Br
  have c1:=P1.ck.cells _ _ om om cB
  have e1b:=P1.tg.e_
  obtain ⟨ds2,es2,h2,⟨n2,e2⟩,P2⟩:=hP1 B vp ds1 es1 h1 o r2 (fun q hq=>hV1.kid (by simpa [Part.kids] using .inr hq)) P1.tg ⟨by omega,by omega⟩ om
  have l3:=P2.len
  have l4:=P2.Br
  have c2:=P2.ck.cells _ _ om om c1
  have o2:(ds2.map Prod.snd)[o]? =some D:=by
   obtain ⟨y,rfl⟩:=P1.ext
   obtain ⟨y2,rfl⟩:=P2.ext
   rw [List.map_append,List.getElem?_append_left (by simp;omega),List.map_append,List.getElem?_append_left (by simpa using ol)]
   exact ho
  obtain ⟨ys,hy,hyl,hyg⟩:=jZ r3
  simp only [List.length_map,List.getElem_map] at hyl hyg
  have q2:∀hp,nJ hp .sl vy= .ok dl.length:=fun hp=>by rw [bO hy hp,hyl]
  have lt2:=BL (dl.map Part.desc)
  simp only [List.length_map] at lt2
  obtain ⟨ds3,es3,h3,⟨n3,e3⟩,P3,w3⟩:=Nu H (dl:=dl) hO1 (fun q hq=>hV1.kid (by simp only [Part.kids,List.mem_append,List.mem_map];exact .inr ⟨q,hq,rfl⟩)) (by intro q hq;exact hq) hy hyl hyg om (o:=o) (ix:=i) (b14:=h.next) rvx om om hde (x8:=x8) (x45:=vd) (x46:= .int .i64 (l.length:Nat)) (x47:= .int .i64 (i:Nat)) dl.length 0 ds2 es2 h2 om P2.tg o2 c2 (by rw [List.drop_zero];omega)
  rw [List.drop_zero] at P3
  have l5:=P3.len
  have l6:=P3.Br
  have o3:(ds3.map Prod.snd)[o]? =some D:=by
   obtain ⟨y,rfl⟩:=P3.ext
   rw [List.map_append,List.getElem?_append_left (by simp;omega)]
   exact o2
  have P13:=(P1.before ((CK.AT gA).trans kB)).trans (P2.trans P3)
  obtain ⟨ds4,es4,h4,⟨n4,e4⟩,P4,w4⟩:=ih (i+1) ds3 es3 h3 om P3.tg o3 om (by
   intro j d hj hd2 hc2
   by_cases c:j<i
   ·obtain ⟨e,q1,q2⟩:=hk j d c hd2 hc2
    obtain ⟨e',q3,q4⟩:=P13.keys e q1
    exact ⟨e',q3,q4.trans q2⟩
   ·obtain rfl:j=i:=om
    rw [hgi] at hd2
    cases hd2
    simp only [qP] at hc2
    exact w3 (List.length_pos_iff.2 hc2))
  refine ⟨ds4,es4,h4,Ev.code ⟨n1+n2+n3+n4+1,fun m hm=> ?b1⟩,(P13.trans P4).FP om,w4⟩
  case b1=>
   have e1' :=e1 m om
   have e2' :=e2 m om
   have e3' :cG (eval fns orc m) 58 none (.loop p58x11111010011001111100) _=_:=e3 (m+1) om
   have e4' :=e4 m om
   simp only [gE] at eB e1b
   rw [aI]
   simp only [Int.ofNat_zero] at e3'
   simp -implicitDefEqProofs (disch:=(first|omega|(simp only [aD.aJ,aD.aL];try omega)|skip)) only [d,hia,p8,hst,cA,zA,hsn,eB,cB,e1',c1,e1b,e2',c2,q2,e3',fE,fG,dV,cT,dU,cS,fF,dR,gV,eQ,aM,dJ,iJ,opA,qS,kE,qT,pL,rJ,sB,dG,gU,fP,qM,mC,iZ,gJ,mK,dM,eZ,Nat.beq,lS,mH,eE,vl,rH,eY,eW,dW,fK,fH,fI,bY,iG,iD,cV,fL,fJ,bZ,iE,cU,cX,dA,cW,fM,dL,eT,eU,bP,iB,gZ,cK,eX,eV,bQ,iA,cJ,cP,cQ,cM,eS,dO,aY,dH,aZ,fB,bV,bR,bW,bT,dP,fD,kE,eN,kL,aT,aV,fO,gX,List.drop_zero,List.drop_succ_cons,rS,oEq,eqA,pR,ki,eP,eH,oneOf,iC,jH,mU,called,List.append_eq,List.nil_append,List.cons_append,List.append_assoc,Nat.zero_add,Nat.add_zero,kN,lK,aQ,aE,aD.aJ,aD.aL,List.length_cons,List.length_nil,Bool.and_true,Bool.true_and,List.all_cons,List.all_nil,bJ,cF,bK,bI,fA,Nat.reduceAdd,Nat.reduceEqDiff,Nat.reduceBEq,ite_true,ite_false,if_true,if_false,iQ,kH,jE,iK,iN,dK,iI,decide_eq_true_eq,decide_true,decide_false,qV,intArith,Int.ofNat_zero,reduceCtorEq,Bool.not_true,Bool.not_false,Bool.false_eq_true,Int.reduceEq,Int.reduceAdd,Int.zero_add,Int.add_zero,lZ,dQ,cR,oG,oI,oJ,oK,kR,iM,qE,iL,jA,qD,iW,jO,iY,pH,fU,eJ,eK,eL,fS,kK,lT,pK,mJ,jU,iV,List.reverse_cons,List.reverse_nil,oS,dD,dZ,dC,eD,bM,jB,eO,qO,oMx,lE,jT,vF,lD,kE,eN,evO,mZ,jL,oF,oE,gH,fX,dY,iU,uF,dD,dZ,dC,eD,bM,vG,tP,bound,vl,eqA,jC,Int.reduceLE,Int.reduceLT,kJ,jM,aG,aK,dB,aR,kO,iO,jP,kM,lU,takeN,cI,jJ,jQ,iX,eM,gS,fQ,jR,kU,gN,KF,KG]
   rw [sH hlt om]
   exact e4'
end Go.Ly
namespace Go.Ly
open Go Go.Am Go.Fs Go.Gn
variable {fns:Go.Am.F} {orc:Orc}
def TE:pD→List pO| .mk _ _ _ e _ _ _=>e
def dDo:pD→List qN| .mk _ _ _ _ _ i _=>i
def Wf:pD→List pO| .mk _ _ _ _ _ _ x=>x
theorem PI (l:List (Nat×DS)):Ab 1 (l.map fun e=>AV.ptr e.1 0):=by
 intro x hx
 obtain ⟨e,_,rfl⟩:=List.mem_map.1 hx
 rfl
theorem N3 (l:List (Nat×DS)):kQ (l.map fun e=>AV.ptr e.1 0) (l.map fun e=>AV.ptr e.1 0)=true:=by
 induction l with
 |nil=>simp [kQ]
 |cons e l ih=>simp only [List.map_cons,eM,dZ,Nat.beq_refl,Bool.and_self,Bool.true_and,ih]
theorem VB {h:aD} {sl:AV} {ds:List (Nat×DS)} (a:Acc h sl (ds.map fun e=>AV.ptr e.1 0)):dX sl sl=true:=by
 have:=N3 ds
 generalize (ds.map fun e=>AV.ptr e.1 0)=xs at a this
 cases a with
 |nil=>exact bM
 |opn t xs _ _=>simp only [dX,this,vN,Bool.and_self]
theorem Ss {h:aD} {l:AV} {xs:List AV} (a:Acc h l xs) (hp:aD):nJ hp .sl l= .ok xs.length:=by
 cases a with
 |nil=>rfl
 |opn t xs _ _=>rfl
theorem Oa {h:aD} {l:AV} {xs:List AV} (a:Acc h l xs) {t:Nat} (ht:jK l=some t):h.get t=some (.tok xs.length):=by
 cases a with
 |nil=>cases ht
 |opn u xs h1 _=>cases ht;exact h1
theorem VD {h:aD} {l:AV} {xs:List AV} (a:Acc h l xs):l.cells=[l]∧l.bX=true:=by
 cases a with
 |nil=>exact ⟨rfl,rfl⟩
 |opn u xs h1 _=>exact ⟨rfl,rfl⟩
theorem TG.add {B:GB} {ds:List (Nat×DS)} {es:Es} {h:aD} (T:TG B ds es h) {loc:Nat} {D:DS} (hl:cont h loc=some (bx D false .aC .aC 0 0)) (hb:B.base≤loc) (hD:D.Ok) (hr:D.rt=B.rt) (ha: -1≤D.ar∧D.ar<(ds.length:Int)) (hn:ds.length<5000000) (hw:∀e∈ds,e.1<loc):
  ∃sl l' hC,cont h B.tb=some [sl,.map B.mb,.aC]∧dX sl sl=true∧(∀hp,nJ hp .sl sl= .ok ds.length)∧mT h 1 sl (.sl .full [.ptr loc 0])= .ok (l',hC)∧cont hC B.pb=some [.ptr B.tb 0]∧hC.next≥h.next∧
   kG hC 1 (.ptr B.tb 0) l' = .ok (hC.set B.tb (.cells [l',.map B.mb,.aC]))∧TG B (ds++[(loc,D)]) es (hC.set B.tb (.cells [l',.map B.mb,.aC]))∧CK B h (hC.set B.tb (.cells [l',.map B.mb,.aC])):=by
 obtain ⟨sl,ht,ac,tk⟩:=T.t_
 obtain ⟨l',hC,ap,ac',gx,tk'⟩:=sG ac (n:=1) (v:= .ptr loc 0) om (PI ds) rfl (by simp;omega)
 have sep:∀{i c},cont h i=some c→cont hC i=some c:=by
  intro i c w
  refine (aH (gx.get i (aO w) ?_)).trans w
  intro q
  have h1:=Oa ac q
  rw [gM w] at h1
  cases h1
 have sepM:∀{i es c},h.get i=some (.map es c)→hC.get i=some (.map es c):=by
  intro i es c w
  refine (gx.get i (aD.mN w) ?_).trans w
  intro q
  have h1:=Oa ac q
  rw [w] at h1
  cases h1
 have tC:=sep ht
 have lC:=aO tC
 have V6:=VD ac'
 obtain ⟨h2,h2e⟩:∃x,x=hC.set B.tb (.cells [l',.map B.mb,.aC]):=⟨_,rfl⟩
 have q:∀{i c},i≠B.tb→cont h i=some c→cont h2 i=some c:=fun hi w=>by rw [h2e];exact (aK lC hi).trans (sep w)
 have ne:∀{i c},cont h i=some c→c.length≠3→i≠B.tb:=by
  rintro i c w hc rfl
  rw [ht] at w
  cases w
  exact hc rfl
 obtain ⟨z,hz⟩:=T.n_
 refine ⟨sl,l',hC,ht,VB ac,fun hp=>by rw [Ss ac];simp,ap,sep T.p_,gx.next, ?_, ?_, ?_⟩
 ·simp only [iS,tC,iO,V6.1,List.length_cons,List.length_nil,List.all_cons,List.all_nil,V6.2,cI]
  rfl
 ·rw [←h2e]
  refine ⟨q (ne T.p_ (by simp)) T.p_,⟨z,q (ne hz (by simp)) hz⟩,q (ne T.e_ (by simp)) T.e_,q (ne T.i_ (by simp)) T.i_,q (ne T.o_ (by simp)) T.o_,⟨l',by rw [h2e];exact aG lC, ?_,fun t ht' => ?_⟩, ?_, ?_,T.bs,⟨?_, ?_, ?_⟩,List.pairwise_append.2 ⟨T.w_,List.pairwise_singleton _ _,fun a ha b hb=>by rw [List.mem_singleton.1 hb];exact hw a ha⟩⟩
  ·rw [List.map_append]
   simp only [List.map_cons,List.map_nil]
   generalize (ds.map (fun e=>AV.ptr e.1 0)++[AV.ptr loc 0])=xs at ac'
   cases ac' with
   |nil=>exact .nil
   |opn t xs h1 h2' =>
    refine .opn t _ ?_ h2'
    rw [h2e,aE _ _ _ _ lC ?_]
    ·exact h1
    ·rintro rfl
     rw [gM tC] at h1
     cases h1
  ·rcases tk' t ht' with w|w
   ·exact tk t w
   ·have:=aO ht
    have:=T.bs.2.1
    omega
  ·obtain ⟨c,w⟩:=T.m_
   refine ⟨c, ?_⟩
   rw [h2e,aE _ _ _ _ lC ?_]
   ·exact sepM w
   ·intro e
    rw [e,gM ht] at w
    cases w
  ·intro e he
   rcases List.mem_append.1 he with w|w
   ·have k:=T.d_ e w
    refine ⟨q (ne k.1 ?_) k.1,k.2⟩
    obtain ⟨j,hj,rfl⟩:=List.getElem_of_mem w
    rw [C4 (T.g_.ok j _ (by rw [List.getElem?_map,List.getElem?_eq_getElem hj];rfl))]
    omega
   ·rw [List.mem_singleton.1 w]
    exact ⟨q (ne hl (by rw [C4 hD];omega)) hl,hb,hr⟩
  ·intro j E hE
   rw [List.map_append] at hE
   by_cases c:j<ds.length
   ·rw [List.getElem?_append_left (by simpa using c)] at hE
    exact T.g_.ar j E hE
   ·rw [List.getElem?_append_right (by simp;omega)] at hE
    obtain ⟨hj,hE⟩:=List.getElem?_eq_some_iff.1 hE
    simp at hj
    obtain rfl:j=ds.length:=om
    simp at hE
    subst hE
    exact ha
  ·intro j E hE
   rw [List.map_append] at hE
   by_cases c:j<ds.length
   ·rw [List.getElem?_append_left (by simpa using c)] at hE
    exact T.g_.ok j E hE
   ·rw [List.getElem?_append_right (by simp;omega)] at hE
    obtain ⟨hj,hE⟩:=List.getElem?_eq_some_iff.1 hE
    simp at hj
    obtain rfl:j=ds.length:=om
    simp at hE
    subst hE
    exact hD
  ·intro e he
   obtain ⟨o,i,v,D',E',h1,h2,h3,h4,h5,h6,h7⟩:=T.g_.es e he
   refine ⟨o,i,v,D',E',h1,h2, ?_, ?_,h5,h6,h7⟩
   ·rw [List.map_append,List.getElem?_append_left (List.getElem?_eq_some_iff.1 h3).1];exact h3
   ·rw [List.map_append,List.getElem?_append_left (List.getElem?_eq_some_iff.1 h4).1];exact h4
 ·rw [←h2e]
  refine ⟨by rw [h2e];simpa using gx.next,fun i c h1 h2' w=>q h2' w,fun i hi hl' => ?_⟩
  rw [h2e,aE _ _ _ _ lC (by have:=T.bs.2.1;omega)]
  exact gx.get i hl' (fun w=>by have:=tk i w;omega)
theorem UX (H:Has fns orc) {d:pD} (hP:wF fns orc (BT d)) (hS:∀x∈aU d,wF fns orc (Pc x)) (hQ:∀x∈aU d,wF fns orc (wM x)) (hO:∀x∈aU d,∀y∈qP x,HA fns orc y) (hE:wF fns orc (TE d)) (hI:CJ fns orc (dDo d)) (hX:wF fns orc (Wf d)):HA fns orc d:=by
 intro B c ow oc ds es h a rv ro hV T ha how hb
 have rv0:=rv
 have ro0:=ro
 obtain ⟨z,hz⟩:=T.n_
 have lnb:=aO hz
 obtain ⟨sl0,htb,_,_⟩:=T.t_
 have ltb:=aO htb
 have lpb:=aO T.p_
 have leb:=aO T.e_
 obtain ⟨bs1,bs2,bs3⟩:=T.bs
 obtain ⟨D,hDe⟩:∃D:DS,D=⟨d,ow,z,a,c,oc,B.rt⟩:=⟨_,rfl⟩
 have hD:D.Ok:=by rw [hDe];exact ⟨rv,ro,hV.1,how,(by show (Part.desc d).nodes<5000000;omega),hV.2⟩
 obtain ⟨hA,hAe⟩:∃x,x=(h.push (.cells c)).push (.cells oc):=⟨_,rfl⟩
 have gA:aP h hA:=by rw [hAe];exact gw2
 have nA:hA.next=h.next+2:=by rw [hAe];simp
 have a0:cont hA h.next=some c:=by rw [hAe];exact ctp
 have a1:cont hA (h.next+1)=some oc:=by rw [hAe];exact ctp
 have TA:=T.grow gA
 have pA:=TA.p_
 have zA:cont hA B.nb=some [.int .i64 z]:=(aF gA lnb).trans hz
 have tA:cont hA B.tb=some [sl0,.map B.mb,.aC]:=(aF gA ltb).trans htb
 obtain ⟨hB,hBe⟩:∃x,x=hA.push (.cells (bx D false .aC .aC 0 0)):=⟨_,rfl⟩
 have gB:aP hA hB:=by rw [hBe];exact gw2
 have nB:hB.next=h.next+3:=by rw [hBe];simp [nA]
 have bB:cont hB (h.next+2)=some (bx D false .aC .aC 0 0):=by rw [hBe];exact aR om om
 have TB:=TA.grow gB
 have pB:=TB.p_
 obtain ⟨sl,l',hC,tB,eqs,lens,ap,pC,nC,hst,T2,c2⟩:=TB.add bB om hD (by rw [hDe]) (by rw [hDe];exact ha) om (fun e he=>by have:=aO (T.d_ e he).1;omega)
 obtain rfl:sl0=sl:=by
  have:=(aF gB (aO tA)).trans tA
  rw [tB] at this
  injection this with this
  injection this with this _
  exact this.symm
 obtain ⟨h2,h2e⟩:∃x,x=hC.set B.tb (.cells [l',.map B.mb,.aC]):=⟨_,rfl⟩
 rw [←h2e] at hst T2 c2
 have c02:=c2.cells _ _ om om ((aF gB (by omega:h.next<hA.next)).trans a0)
 obtain ⟨z2,hz2⟩:=T2.n_
 obtain ⟨T3,c3⟩:=T2.num (IntKind.wrap .i64 (z2+1))
 have hsn:=kS (gM hz2) (v:= .int .i64 (IntKind.wrap .i64 (z2+1))) rfl rfl
 obtain ⟨h3,h3e⟩:∃x,x=h2.set B.nb (.cells [.int .i64 (IntKind.wrap .i64 (z2+1))]):=⟨_,rfl⟩
 rw [←h3e] at hsn T3 c3
 have c03:=c3.cells _ _ om om c02
 have e3b:=T3.e_
 have G3:CK B h h3:=((CK.AT gA).trans (CK.AT gB)).trans (c2.trans c3)
 have ln3:(ds++[(h.next+2,D)]).length=ds.length+1:=by simp
 cases d with|mk s pl dl el b il xl=>
 simp only [aU] at hS hQ hO
 simp only [BT] at hP
 simp only [TE] at hE
 simp only [dDo] at hI
 simp only [Wf] at hX
 rw [xD] at hb
 rw [xD]
 have hDd:aU D.pd=dl:=by rw [hDe];rfl
 cases rv with|desc r1 r2 r3 r4 r5=>
 rename_i vp vd ve vi vx
 cases ro with|decl s0 s1 s2 s3=>
 rename_i k8 nm8 sz8 pt8 ds8 vn8 vs8 vp8 vd8
 obtain ⟨ds4,es4,h4,⟨n4,e4⟩,P4⟩:=hP B vp (ds++[(h.next+2,D)]) es h3 a r1 (fun q hq=>hV.kid (by simp only [Part.kids,List.mem_append,List.mem_map];exact .inl (.inl (.inl (.inl ⟨q,hq,rfl⟩))))) T3 ⟨ha.1,by omega⟩ om
 have l4:=P4.len
 have g4:=P4.Br
 have c04:=P4.ck.cells _ _ om om c03
 have o4:(ds4.map Prod.snd)[ds.length]? =some D:=by
  obtain ⟨y,rfl⟩:=P4.ext
  rw [List.map_append,List.getElem?_append_left (by simp),List.map_append,List.getElem?_append_right (by simp)]
  simp
 obtain ⟨ys,hy,hyl,hyg⟩:=jZ r2
 simp only [List.length_map,List.getElem_map] at hyl hyg
 have q2:∀hp,nJ hp .sl vd= .ok dl.length:=fun hp=>by rw [bO hy hp,hyl]
 have lt2:=BL (dl.map Part.decl)
 simp only [List.length_map] at lt2
 obtain ⟨ds5,es5,h5,⟨n5,e5⟩,P5,w5⟩:=QA H (l:=dl) hS hQ hO (fun q hq=>hV.kid (by simp only [Part.kids,List.mem_append,List.mem_map];exact .inl (.inl (.inl (.inr ⟨q,hq,rfl⟩))))) hy hyl hyg om (o:=ds.length) hDd (x8:= .ptr h.next 0) dl.length 0 ds4 es4 h4 om P4.tg o4 (by rw [List.drop_zero];omega) (fun j d hj=>absurd hj (Nat.not_lt_zero _))
 rw [List.drop_zero] at P5
 have l5:=P5.len
 have g5:=P5.Br
 have c05:=P5.ck.cells _ _ om om c04
 have e5b:=P5.tg.e_
 obtain ⟨ds6,es6,h6,⟨n6,e6⟩,P6⟩:=hE B ve ds5 es5 h5 ds.length r3 (fun q hq=>hV.kid (by simp only [Part.kids,List.mem_append,List.mem_map];exact .inl (.inl (.inr ⟨q,hq,rfl⟩)))) P5.tg ⟨by omega,by omega⟩ om
 have l6:=P6.len
 have g6:=P6.Br
 have c06:=P6.ck.cells _ _ om om c05
 have i6b:=P6.tg.i_
 obtain ⟨ds7,es7,h7,⟨n7,e7⟩,P7⟩:=hI B vi ds6 es6 h6 ds.length r4 (fun q hq=>hV.kid (by simp only [Part.kids,List.mem_append,List.mem_map];exact .inl (.inr ⟨q,hq,rfl⟩))) P6.tg ⟨by omega,by omega⟩ om
 have l7:=P7.len
 have g7:=P7.Br
 have c07:=P7.ck.cells _ _ om om c06
 have e7b:=P7.tg.e_
 obtain ⟨ds8,es8,h8,⟨n8,e8⟩,P8⟩:=hX B vx ds7 es7 h7 ds.length r5 (fun q hq=>hV.kid (by simp only [Part.kids,List.mem_append,List.mem_map];exact .inr ⟨q,hq,rfl⟩)) P7.tg ⟨by omega,by omega⟩ om
 have l8:=P8.len
 have P58:=(P5.trans P6).trans (P7.trans P8)
 have P48:=P4.trans P58
 have ext:∃y,ds8=ds++(h.next+2,D)::y:=by
  obtain ⟨y,hy⟩:=P48.ext
  exact ⟨y,by rw [hy];simp⟩
 refine ⟨ds8,es8,h8,h.next+2,D,Ev.call H.f58 H.o58 ⟨n4+n5+n6+n7+n8+1,fun m hm=> ?b1⟩,⟨P8.tg,G3.trans P48.ck, ?px, ?pl, ?pk, ?pd⟩, ?pg,by rw [hDe],by rw [hDe],by rw [hDe]⟩
 case px=>obtain ⟨y,hy⟩:=ext;exact ⟨_,hy⟩
 case pl=>omega
 case pk=>exact P48.keys
 case pg=>
  obtain ⟨y,rfl⟩:=ext
  rw [List.getElem?_append_right (Nat.le_refl _)]
  simp
 case pd=>
  intro j hj hl
  by_cases c:j=ds.length
  ·subst c
   intro E hE i x hx hc
   obtain ⟨y,rfl⟩:=ext
   rw [List.map_append,List.getElem?_append_right (by simp)] at hE
   simp at hE
   subst hE
   rw [hDd] at hx
   obtain ⟨e,q1,q2⟩:=w5 i x hx hc
   obtain ⟨e',q3,q4⟩:=((P6.trans P7).trans P8).keys e q1
   exact ⟨e',q3,q4.trans q2⟩
  ·exact P48.dn j om hl
 case b1=>
  have e4' :=e4 m om
  have e5' :cG (eval fns orc m) 58 none (.loop p58x111110100) _=_:=e5 (m+1) om
  have e6' :=e6 m om
  have e7' :=e7 m om
  have e8' :=e8 m om
  simp only [gE] at e3b e5b e7b
  simp only [gI] at i6b
  simp only [Int.ofNat_zero] at e5'
  have hBe' :hA.push (.cells [.str s,vp,vd,ve,.bool b,vi,vx,.int .i64 z,.int .i64 a,.int .i64 k8,vn8,vs8,vp8,vd8,.bool false,.aC,.aC,.int .i64 0,.int .i64 0])=hB:=by rw [hBe,hDe];rfl
  have y1:=jS r1
  have y2:=jS r2
  have y3:=jS r3
  have y4:=jS r4
  have y5:=jS r5
  have y6:=vC s0
  have y7:=jS s1
  have y8:=jS s2
  have y9:=jS s3
  have nA' :hA.next=h.next+2:=nA
  have x1:=aS r1
  have x2:=aS r2
  have x3:=aS r3
  have x4:=aS r4
  have x5:=aS r5
  exact SO (dI @a58.eq_1 (Eq.symm hAe) pA tA lens a0 a1 zA hBe' pB tB eqs y1 y2 y3 y4 (dI y5 y6 y7 y8 y9 nA' ap pC hst hz2 hsn c03 e3b e4' c04 q2 (tR e5' c05 e5b e6' c06 i6b e7' c07 e7b e8')))
end Go.Ly
namespace Go.Ly
open Go Go.Am Go.Fs Go.Gn
variable {fns:Go.Am.F} {orc:Orc}
def GM (fns:Go.Am.F) (orc:Orc):Part→Prop
 | .exp e=>wF fns orc (Ow e)∧∀d∈Je e,HA fns orc d
 | .desc d=>HA fns orc d
 | .decl x=>wF fns orc (Pc x)∧wF fns orc (wM x)∧∀d∈qP x,HA fns orc d
 | .imp i=>wF fns orc (OQ i)∧(∀c∈Jw i,wF fns orc (IC c)∧CJ fns orc (IE c))∧CJ fns orc (OS i)
 | .case c=>wF fns orc (IC c)∧CJ fns orc (IE c)
theorem Xe (H:Has fns orc):∀p,GM fns orc p:=by
 refine Part.ind fun p ih=> ?_
 have ke:∀l:List pO,(∀e∈l,Part.exp e∈p.kids)→wF fns orc l:=fun l hl=>Tu H (fun e he=>(ih _ (hl e he)).1) (fun e he=>(ih _ (hl e he)).2)
 have ki' :∀l:List qN,(∀e∈l,Part.imp e∈p.kids)→CJ fns orc l:=fun l hl=>Sz H (fun e he=>(ih _ (hl e he)).1) (fun e he=>(ih _ (hl e he)).2.1) (fun e he=>(ih _ (hl e he)).2.2)
 cases p with
 |exp e=>
  cases e with|mk k op n man ex t a d=>
  exact ⟨ke a (fun e he=>by simp only [Part.kids,List.mem_append,List.mem_map];exact .inl ⟨e,he,rfl⟩),fun x hx=>ih (.desc x) (by simp only [Part.kids,List.mem_append,List.mem_map];exact .inr ⟨x,hx,rfl⟩)⟩
 |desc d=>
  cases d with|mk s pl dl el b il xl=>
  have kd:∀x∈dl,GM fns orc (.decl x):=fun x hx=>ih (.decl x) (by simp only [Part.kids,List.mem_append,List.mem_map];exact .inl (.inl (.inl (.inr ⟨x,hx,rfl⟩))))
  exact UX H (ke pl (fun e he=>by simp only [Part.kids,List.mem_append,List.mem_map];exact .inl (.inl (.inl (.inl ⟨e,he,rfl⟩))))) (fun x hx=>(kd x hx).1) (fun x hx=>(kd x hx).2.1) (fun x hx=>(kd x hx).2.2)
   (ke el (fun e he=>by simp only [Part.kids,List.mem_append,List.mem_map];exact .inl (.inl (.inr ⟨e,he,rfl⟩)))) (ki' il (fun e he=>by simp only [Part.kids,List.mem_append,List.mem_map];exact .inl (.inr ⟨e,he,rfl⟩))) (ke xl (fun e he=>by simp only [Part.kids,List.mem_append,List.mem_map];exact .inr ⟨e,he,rfl⟩))
 |decl d=>
  cases d with|mk k n s pl dl=>
  exact ⟨ke s (fun e he=>by simp only [Part.kids,List.mem_append,List.mem_map];exact .inl (.inl ⟨e,he,rfl⟩)),ke pl (fun e he=>by simp only [Part.kids,List.mem_append,List.mem_map];exact .inl (.inr ⟨e,he,rfl⟩)),fun x hx=>ih (.desc x) (by simp only [Part.kids,List.mem_append,List.mem_map];exact .inr ⟨x,hx,rfl⟩)⟩
 |imp i=>
  cases i with|mk k n e c b bl=>
  exact ⟨ke e (fun x hx=>by simp only [Part.kids,List.mem_append,List.mem_map];exact .inl (.inl ⟨x,hx,rfl⟩)),fun x hx=>ih (.case x) (by simp only [Part.kids,List.mem_append,List.mem_map];exact .inl (.inr ⟨x,hx,rfl⟩)),ki' bl (fun x hx=>by simp only [Part.kids,List.mem_append,List.mem_map];exact .inr ⟨x,hx,rfl⟩)⟩
 |case c=>
  cases c with|mk v b=>
  exact ⟨ke v (fun x hx=>by simp only [Part.kids,List.mem_append,List.mem_map];exact .inl ⟨x,hx,rfl⟩),ki' b (fun x hx=>by simp only [Part.kids,List.mem_append,List.mem_map];exact .inr ⟨x,hx,rfl⟩)⟩
theorem Qx (H:Has fns orc) {d:pD} {c:List AV} (rv:RV (.desc d) (.agg c)) (hV:Valid (.desc d)) (hn:(Part.desc d).nodes<5000000) {tb:Nat} {h:aD} (ht:cont h tb=some [.aC,.qQ,.aC]):
  ∃B ds es h',Ev fns orc (.call 37 [.ptr tb 0,.agg c] .plain h) (.call (.ret jC) .plain h')∧TG B ds es h' ∧B.tb=tb∧B.base=tb∧(h.next≤h'.next∧(∀i c,i≠tb→cont h i=some c→cont h' i=some c)∧∀i,i<tb→h'.get i=h.get i)∧
   ds.length<5000000∧(∀j,j<ds.length→Dn (ds.map Prod.snd) es j)∧∃l D,ds[0]? =some (l,D)∧D.pd=d∧D.ar= -1∧B.rt= .desc d:=by
 have hcl:=kW rv
 have p7:takeN 7 c=some c:=by rw [←hcl];exact aW c
 have lt:=aO ht
 obtain ⟨h1,h1e⟩:∃x,x=(h.push (.cells [.ptr tb 0])).push (.cells c):=⟨_,rfl⟩
 have n1:h1.next=h.next+2:=by rw [h1e];simp
 have g1:aP h h1:=by rw [h1e];exact gw2
 have p1:cont h1 h.next=some [.ptr tb 0]:=by rw [h1e];exact ctp
 have d1:cont h1 (h.next+1)=some c:=by rw [h1e];exact ctp
 obtain ⟨h2,h2e⟩:∃x,x=(h1.push (.cells [.int .i64 0])).set (h.next+2) (.cells [.int .i64 0]):=⟨_,rfl⟩
 have n2:h2.next=h.next+3:=by rw [h2e];simp [n1]
 have g2:aP h1 h2:=by rw [h2e];exact gw2
 have z2:cont h2 (h.next+2)=some [.int .i64 0]:=by rw [h2e];exact aG (by simp;omega)
 have t2:cont h2 tb=some [.aC,.qQ,.aC]:=(aF g2 om).trans ((aF g1 lt).trans ht)
 have p2:=(aF g2 om).trans p1
 obtain ⟨h3,h3e⟩:∃x,x=(h2.push (.map [] 0)).set tb (.cells [.aC,.map (h.next+3),.aC]):=⟨_,rfl⟩
 have n3:h3.next=h.next+4:=by rw [h3e];simp [n2]
 have o3:∀i,i<h2.next→i≠tb→h3.get i=h2.get i:=fun i hi hj=>by rw [h3e,aE _ _ _ _ (by simp;omega) hj,aV _ _ _ hi]
 have t3:cont h3 tb=some [.aC,.map (h.next+3),.aC]:=by rw [h3e];exact aG (by simp;omega)
 have m3:h3.get (h.next+3)=some (.map [] 0):=by rw [h3e,aE _ _ _ _ (by simp;omega) om];exact aT _ _ _ om om
 have z3:=(aH (o3 (h.next+2) om om)).trans z2
 have p3:=(aH (o3 h.next om om)).trans p2
 have d3:=(aH (o3 (h.next+1) om om)).trans ((aF g2 om).trans d1)
 obtain ⟨h6,h6e⟩:∃x,x=((h3.push (.cells [.rM])).push (.cells [.rM])).push (.cells [.rM]):=⟨_,rfl⟩
 have n6:h6.next=h.next+7:=by rw [h6e];simp [n3]
 have g6:aP h3 h6:=by rw [h6e];exact gw2
 have f4:cont h6 (h.next+4)=some [.rM]:=by rw [h6e];exact ctp
 have f5:cont h6 (h.next+5)=some [.rM]:=by rw [h6e];exact ctp
 have f6:cont h6 (h.next+6)=some [.rM]:=by rw [h6e];exact ctp
 obtain ⟨B,hB⟩:∃B:GB,B=⟨h.next,h.next+2,h.next+4,h.next+5,h.next+6,tb,h.next+3,tb,.desc d⟩:=⟨_,rfl⟩
 have se:=kS (gM f4) (v:=gE B) rfl rfl
 obtain ⟨h7,h7e⟩:∃x,x=h6.set (h.next+4) (.cells [gE B]):=⟨_,rfl⟩
 rw [←h7e] at se
 have g7:aP h3 h7:=by rw [h7e];exact g6.set om om _
 have n7:h7.next=h.next+7:=by rw [h7e];simp [n6]
 have f57:cont h7 (h.next+5)=some [.rM]:=by rw [h7e];exact (aK om om).trans f5
 have f67:cont h7 (h.next+6)=some [.rM]:=by rw [h7e];exact (aK om om).trans f6
 have e7:cont h7 (h.next+4)=some [gE B]:=by rw [h7e];exact aG om
 have si:=kS (gM f57) (v:=gI B) rfl rfl
 obtain ⟨h8,h8e⟩:∃x,x=h7.set (h.next+5) (.cells [gI B]):=⟨_,rfl⟩
 rw [←h8e] at si
 have g8:aP h3 h8:=by rw [h8e];exact g7.set om om _
 have n8:h8.next=h.next+7:=by rw [h8e];simp [n7]
 have f68:cont h8 (h.next+6)=some [.rM]:=by rw [h8e];exact (aK om om).trans f67
 have e8:cont h8 (h.next+4)=some [gE B]:=by rw [h8e];exact (aK om om).trans e7
 have i8:cont h8 (h.next+5)=some [gI B]:=by rw [h8e];exact aG om
 have so:=kS (gM f68) (v:=gO B) rfl rfl
 obtain ⟨h9,h9e⟩:∃x,x=h8.set (h.next+6) (.cells [gO B]):=⟨_,rfl⟩
 rw [←h9e] at so
 have g9:aP h3 h9:=by rw [h9e];exact g8.set om om _
 have n9:h9.next=h.next+7:=by rw [h9e];simp [n8]
 have e9:cont h9 (h.next+4)=some [gE B]:=by rw [h9e];exact (aK om om).trans e8
 have i9:cont h9 (h.next+5)=some [gI B]:=by rw [h9e];exact (aK om om).trans i8
 have o9:cont h9 (h.next+6)=some [gO B]:=by rw [h9e];exact aG om
 have z9:=(aF g9 om).trans z3
 have p9:=(aF g9 om).trans p3
 have t9:=(aF g9 om).trans t3
 have m9:=(g9.get _ om).trans m3
 have d9:=(aF g9 om).trans d3
 have T:TG B [] [] h9:=by
  rw [hB] at e9 i9 o9⊢
  exact ⟨p9,⟨0,z9⟩,e9,i9,o9,⟨.aC,t9,.nil,(by intro t w;cases w)⟩,⟨0,m9⟩,(by intro e he;cases he),⟨(by simp only [];omega),(by simp only [];omega),(by simp only [];omega)⟩,⟨(by intro j D w;simp at w),(by intro j D w;simp at w),(by intro e he;cases he)⟩,.nil⟩
 obtain ⟨ds,es,h',l,D,⟨k1,e1⟩,P,q1,q2,q3,q4⟩:=(Xe H (.desc d):HA fns orc d) B c Av _ [] [] h9 (-1) rv Fx ⟨hV,by rw [hB];exact .refl⟩ T ⟨by omega,by simp⟩ (.inl rfl) (by simpa using hn)
 have ck:=P.ck
 have Ya:∀i,i<h.next→i≠tb→h9.get i=h.get i:=fun i hi hj=>by rw [g9.get i om,o3 i om hj,g2.get i om,g1.get i hi]
 refine ⟨B,ds,es,h',Ev.call H.f37 H.o37 ⟨k1,fun m hm=> ?pb⟩,P.tg,by rw [hB],by rw [hB],⟨by have:=ck.next;omega,fun i c' hi w=> ?pk,fun i hi=> ?po⟩,by have:=P.len;simp at this;omega,fun j hj=>P.dn j (Nat.zero_le _) hj,l,D,q1,q2,q4,by rw [hB]⟩
 case pb=>
  have e1' :=e1 m hm
  rw [hB] at e1' se si so o9
  simp only [gE,gI,gO] at se si so o9
  have w1:h.next+4+1=h.next+5:=rfl
  have w2:h.next+4+2=h.next+6:=rfl
  have w3:h.next+5+1=h.next+6:=rfl
  have st:kG (h2.push (.map [] 0)) 1 (.ptr tb 1) (.map (h.next+3))= .ok h3:=by
   have q:cont (h2.push (.map [] 0)) tb=some [.aC,.qQ,.aC]:=(dB om).trans t2
   rw [h3e]
   simp only [iS,q,iO,AV.cells,List.length_cons,List.length_nil,List.all_cons,List.all_nil,dH,cI]
   rfl
  have sz:kG (h1.push (.cells [.int .i64 0])) 1 (.ptr (h.next+2) 0) (.int .i64 0)= .ok h2:=by
   rw [h2e,←n1]
   exact kS (aD.qI _ _) rfl rfl
  exact SM (dI @a37.eq_1 (Eq.symm h1e) n1 n2 n3 w1 w2 w3 d1 p2 p7 sz st z3 p3 (Eq.symm h6e) (cj6 se si so o9 d9 e1'))
 case pk=>
  have w' :=(aH (Ya i (aO w) hi)).trans w
  refine ck.cells i c' ?_ ?_ w'
  ·rw [hB];have:=aO w;simp only [];omega
  ·rw [hB];exact hi
 case po=>
  rw [ck.old i (by rw [hB];exact hi) om]
  exact Ya i om om
end Go.Ly
end
