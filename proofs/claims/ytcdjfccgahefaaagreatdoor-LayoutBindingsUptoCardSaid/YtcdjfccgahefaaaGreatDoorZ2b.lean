/- Parts of a proof. -/
import Derived.Test.YtcdjfccgahefaaaGreatDoorD
import Derived.Test.YtcdjfccgahefaaaGreatDoorZ1
import Derived.Test.YtcdjfccgahefaaaGreatDoorZ
set_option linter.all false
set_option maxHeartbeats 16000000
set_option maxRecDepth 20000
noncomputable section
namespace Go.Ly
open Go Go.Am Go.Fs Go.Gn
variable {fns:Go.Am.F} {orc:Orc}
def CfR (Γ:Tb) (S:Nat→DY) (a b:Int) (r:Bool) (e:Int):Prop:=
 (¬(inT Γ a=true∧inT Γ b=true)∧r=false∧e=1)∨∃(i j:Nat) (ci ui cj uj:List Nat),a=(i:Int)∧b=(j:Int)∧i<Γ.n∧j<Γ.n∧(S i).ch=some (ci,ui)∧(S j).ch=some (cj,uj)∧r=Ae ci cj∧e=0
theorem Uw (H:Has fns orc) {Γ:Tb} {S:Nat→DY} {h:aD} (M:Made Γ S h) (a b:Int):
  ∃r e,Ev fns orc (.call 8 [.ptr Γ.tb 0,.int .i64 a,.int .i64 b] .plain h) (.call (.ret (.tup [.bool r,.int .i64 e])) .plain h)∧CfR Γ S a b r e:=by
 have ha:=ML H M a
 have hb:=ML H M b
 cases ca:inT Γ a with
 |false=>
  rw [ca] at ha
  refine ⟨false,1,Ev.call H.f8 H.o8 ⟨2,fun m hm=> ?b1⟩,.inl ⟨by rw [ca];simp,rfl,rfl⟩⟩
  case b1=>
   have ha' :=ha m hm
   exact SX (cj2 @a8.eq_1 ha')
 |true=>
  rw [ca] at ha
  cases cb:inT Γ b with
  |false=>
   rw [cb] at hb
   refine ⟨false,1,Ev.call H.f8 H.o8 ⟨2,fun m hm=> ?b2⟩,.inl ⟨by rw [cb];simp,rfl,rfl⟩⟩
   case b2=>
    have ha' :=ha m hm
    have hb' :=hb m hm
    exact SX (cj3 @a8.eq_1 ha' hb')
  |true=>
   rw [cb] at hb
   simp only [inT,Bool.and_eq_true,decide_eq_true_eq] at ca cb
   obtain ⟨i,rfl⟩:∃i:Nat,a=(i:Int):=⟨a.toNat,by omega⟩
   obtain ⟨j,rfl⟩:∃j:Nat,b=(j:Int):=⟨b.toNat,by omega⟩
   have hi:i<Γ.n:=om
   have hj:j<Γ.n:=om
   obtain ⟨⟨ci,ui⟩,hci⟩:=Option.ne_none_iff_exists'.1 (M.all i)
   obtain ⟨⟨cj,uj⟩,hcj⟩:=Option.ne_none_iff_exists'.1 (M.all j)
   obtain ⟨n,e⟩:=Nn H M.ok M.wf M.tb hi hj hci hcj
   refine ⟨Ae ci cj,0,Ev.call H.f8 H.o8 ⟨n+2,fun m hm=> ?b3⟩,.inr ⟨i,j,ci,ui,cj,uj,rfl,rfl,hi,hj,hci,hcj,rfl,rfl⟩⟩
   case b3=>
    have ha' :=ha m om
    have hb' :=hb m om
    have e' :=e m om
    exact SX (cj4 @a8.eq_1 ha' hb' e')
end Go.Ly
namespace Go.Ly
open Go Go.Am Go.Fs Go.Gn
theorem AD.uniq {Γ:Tb} {S:Nat→DY} {a:Int} {e:pD} {t t' :Tg} (h:AD Γ S a e t) (h' :AD Γ S a e t'):t=t' :=by
 obtain ⟨_,h⟩:=h
 obtain ⟨_,h'⟩:=h'
 have no:∀{lv q i k:Nat},BX Γ S (Gi e) a lv q i k→¬yP Γ S (Gi e) a lv:=by
  rintro lv q i k ⟨⟨w,c,u,h1,_,h3,h4⟩,_⟩ n
  obtain ⟨c',u',g1,g2⟩:=n w h1
  rw [h3] at g1
  cases g1
  rw [h4] at g2
  cases g2
 rcases h with ⟨rfl,_,n⟩|⟨lv,q,i,k,w,c,u,o,d,v,f,h1,h2,h3,_,_,_,th,rfl⟩
 ·rcases h' with ⟨rfl,_⟩|⟨lv,q,i,k,w,c,u,o,d,v,f,_⟩
  ·rfl
  ·exact absurd (n lv) (no f)
 ·rcases h' with ⟨rfl,_,n⟩|⟨lv',q',i',k',w',c',u',o',d',v',f',h1',h2',h3',_,_,_,th',rfl⟩
  ·exact absurd (n lv) (no f)
  ·have e:lv=lv' :=by
    rcases Nat.lt_trichotomy lv lv' with z|z|z
    ·exact absurd (f'.2 lv z) (no f)
    ·exact z
    ·exact absurd (f.2 lv' z) (no f')
   subst e
   obtain ⟨⟨w1,c1,u1,a1,_,a3,a4⟩,_⟩:=f
   obtain ⟨⟨w2,c2,u2,b1,_,b3,b4⟩,_⟩:=f'
   obtain rfl:w1=w2:=om
   obtain rfl:w=w1:=om
   obtain rfl:w=w' :=om
   rw [a3] at b3;cases b3
   rw [a4] at b4;cases b4
   rw [h2] at h2';cases h2'
   rw [h3] at h3';cases h3'
   rw [th.uniq th']
theorem rL.uniq {Γ:Tb} {S:Nat→DY} {c c' :List Nat} {q:Nat} {s:List UInt8} {t t' :Tg} (h:rL Γ S c q s t) (h' :rL Γ S c' q s t') (e:c[q]? =c'[q]?):t=t' :=by
 obtain ⟨o,i,k,d,h1,h2,h3,h4,h5⟩:=h
 obtain ⟨o',i',k',d',g1,g2,g3,g4,g5⟩:=h'
 rw [h1,g1] at e;cases e
 rw [h3] at g3;cases g3
 rw [h4] at g4;cases g4
 rcases h5 with ⟨a,v,b1,b2⟩|⟨a,e1,b1,b2⟩
 ·rcases g5 with ⟨_,v',c1,c2⟩|⟨n,_⟩
  ·rw [b2,c2,b1.uniq c1]
  ·exact absurd a n
 ·rcases g5 with ⟨n,_⟩|⟨_,e2,c1,c2⟩
  ·exact absurd n a
  ·rw [b1] at c1;cases c1
   exact b2.uniq c2
theorem rL.ch {Γ:Tb} {S:Nat→DY} {c c' :List Nat} {q:Nat} {s:List UInt8} {t:Tg} (h:rL Γ S c q s t) (e:c[q]? =c'[q]?):rL Γ S c' q s t:=by
 obtain ⟨o,i,k,d,h1,h⟩:=h
 exact ⟨o,i,k,d,e▸h1,h⟩
theorem Ih {Γ:Tb} {s:List UInt8}:∀(c d:List Nat) (q:Nat) (acc:List Nat),yB Γ s (c++d) q acc=yB Γ s d (q+c.length) (yB Γ s c q acc)
 |[],d,q,acc=>rfl
 |x::c,d,q,acc=>by
  rw [List.cons_append,yB,yB,Ih c d,List.length_cons]
  congr 1
  omega
theorem DH {Γ:Tb} {s:List UInt8} {c:List Nat} {d:Nat}:lT Γ s (c++[d])=(match pL (aV (Γ.D d).pd) s with
  |none=>lT Γ s c
  |some (i,_)=>match (aV (Γ.D d).pd)[i]? with
   |none=>lT Γ s c
   |some x=>if iO x=2 then [c.length] else if (iO x=3∨iO x=4)∧lT Γ s c≠[] then lT Γ s c++[c.length] else lT Γ s c):=by
 unfold lT
 rw [Ih,Nat.zero_add]
 rfl
theorem Gw {Γ:Tb} {s:List UInt8}:∀{c:List Nat} {d:Nat} (z:Int),Cd Γ s (c++[d]) z=(match pL (aV (Γ.D d).pd) s with
  |none=>Cd Γ s c z
  |some (i,_)=>match (aV (Γ.D d).pd)[i]? with
   |none=>Cd Γ s c z
   |some x=>iO x)
 |[],d,z=>rfl
 |e::c,d,z=>by rw [List.cons_append,Cd,Gw,Cd]
def JK (Γ:Tb) (S:Nat→DY) (c:List Nat):Prop:=∀q d,c[q]? =some d→d<Γ.n∧(∃u',(S d).ch=some (c.take (q+1),u'))∧uM Γ d (c.take q)∧∀x∈aV (Γ.D d).pd,Ij Γ S d (c.take (q+1)) x
theorem Un {Γ:Tb} {S:Nat→DY} {h:aD} (M:Made Γ S h) {a:Nat} (ha:a<Γ.n) {c u:List Nat} (hc:(S a).ch=some (c,u)):JK Γ S c:=by
 intro q d hq
 obtain ⟨h1,u',h2⟩:=M.wf.part c.length a c u (Nat.le_refl _) ha hc q d hq
 obtain ⟨g1,g2⟩:=M.ck d h1 _ _ h2
 rw [A6 hq,List.dropLast_concat] at g1
 exact ⟨h1,⟨u',h2⟩,g1,g2⟩
theorem Sm {Γ:Tb} {d:Nat} {c0:List Nat} (D:uM Γ d c0) {s:List UInt8} {i k:Nat} (h:pL (aV (Γ.D d).pd) s=some (i,k)):∃x,(aV (Γ.D d).pd)[i]? =some x∧s∈iJ x∧(yA (iO x)=true→vK Γ s c0=2∨vK Γ s c0=3)∧(yA (iO x)=false→vK Γ s c0=0):=by
 obtain ⟨x,h1,h2,_⟩:=Ay h
 obtain ⟨y,g1,g2,_⟩:=Ah h2
 obtain rfl:s=y:=of_decide_eq_true g2
 exact ⟨x,h1,List.mem_of_getElem? g1,(D i x k s h1 g1).2⟩
theorem Ie {Γ:Tb} {S:Nat→DY} {c:List Nat} (G:JK Γ S c) (s:List UInt8):∀m,m≤c.length→lT Γ s (c.take m)≠[]→vK Γ s (c.take m)=2∨vK Γ s (c.take m)=3∨vK Γ s (c.take m)=4
 |0,_,h=>absurd rfl h
 |m+1,hm,h=>by
  obtain ⟨d,hd⟩:∃d,c[m]? =some d:=⟨c[m],List.getElem?_eq_getElem om⟩
  have ih:=Ie G s m om
  obtain ⟨_,_,D,_⟩:=G m d hd
  rw [A6 hd] at h⊢
  rw [DH] at h
  unfold vK at*
  rw [Gw]
  cases e:pL (aV (Γ.D d).pd) s with
  |none=>rw [e] at h;exact ih h
  |some x=>
   obtain ⟨i,k⟩:=x
   obtain ⟨x,g1,g2,g3,g4⟩:=Sm D e
   rw [e] at h
   simp only [g1] at h⊢
   by_cases k2:iO x=2
   ·exact .inl k2
   ·rw [if_neg k2] at h
    by_cases k3:iO x=3∨iO x=4
    ·exact .inr k3
    ·rw [if_neg (fun w=>k3 w.1)] at h
     have:=g4 (by simpa [yA] using k3)
     have q:=ih h
     unfold vK at this
     omega
theorem ThR.facts {Γ:Tb} (O:Γ.Ok) {o i v:Nat} (h:ThR Γ o i v):(Γ.D v).ar=(o:Int)∧(aV (Γ.D o).pd)[i]? =some (Γ.D v).ow∧(Γ.D v).pd∈pY (Γ.D v).ow:=by
 obtain ⟨_,j,e⟩:=h
 rcases BI o i Γ.es 0 (fun e he=>by obtain ⟨p,j,v,_,_,q,_⟩:=O.es e he;exact ⟨p,j,q⟩) with ⟨h1,_⟩|⟨j',v',b,h1,h2⟩
 ·rw [h1] at e
  injection e with e
  cases e
 ·rw [h1] at e
  injection e with e
  injection e with e
  injection e with _ e
  subst e
  obtain ⟨o',i',w,_,_,g3,g4,g5,g6,g7⟩:=O.es _ (List.mem_of_getElem? h2)
  obtain ⟨rfl,rfl⟩:=key_inj g3
  simp only at g4
  injection g4 with _ g4
  obtain rfl:v=w:=om
  exact ⟨g5,g6,g7⟩
def Rl (S:Nat→DY) (t t' :Tg):Prop:=∀x lv p,t=some (x,lv,p)→∃y lv' p' cx ux cy uy,t' =some (y,lv',p')∧(S x).ch=some (cx,ux)∧(S y).ch=some (cy,uy)∧Ae cy cx=true
theorem Rl.trans {S:Nat→DY} {a b c:Tg} (h:Rl S a b) (k:Rl S b c):Rl S a c:=by
 intro x lv p e
 obtain ⟨y,lv',p',cx,ux,cy,uy,h1,h2,h3,h4⟩:=h x lv p e
 obtain ⟨z,lv2,p2,cy',uy',cz,uz,k1,k2,k3,k4⟩:=k y lv' p' h1
 rw [h3] at k2;cases k2
 exact ⟨z,lv2,p2,cx,ux,cz,uz,k1,h2,k3,No k4 h4⟩
theorem Rl.refl {S:Nat→DY} (K:zP S) (t:Tg):Rl S t t:=by
 intro x lv p e
 obtain ⟨⟨c,u⟩,h⟩:=Option.ne_none_iff_exists'.1 (K x)
 exact ⟨x,lv,p,c,u,c,u,e,h,h,Qk _⟩
theorem Qi {Γ:Tb} {S:Nat→DY} (O:Γ.Ok) (K:zP S) (W:WF Γ S) {c:List Nat} (G:JK Γ S c) {s:List UInt8} {m p1 d:Nat} (hd:c[m]? =some d) (hp:p1<m) (hl:(lT Γ s (c.take m)).getLast? =some p1) {i k:Nat} (e:pL (aV (Γ.D d).pd) s=some (i,k)) {x:lH} (hx:(aV (Γ.D d).pd)[i]? =some x) (hs:s∈iJ x) (hk:iO x=3∨iO x=4):
  ∃t1,rL Γ S c p1 s t1∧∀t2,rL Γ S c m s t2→Rl S t1 t2:=by
 obtain ⟨hdn,⟨u',hdc⟩,D,C⟩:=G m d hd
 have hml:=(List.getElem?_eq_some_iff.1 hd).1
 have ix:∀q,q≤m→(c.take (m+1))[q]? =c[q]? :=fun q hq=>List.getElem?_take_of_lt om
 have dl:(c.take (m+1)).dropLast=c.take m:=by rw [A6 hd,List.dropLast_concat]
 have cd:=C x (List.mem_of_getElem? hx)
 by_cases ex:(pY x).length=1∧∃d0,(pY x)[0]? =some d0∧(A1 d0).length=0
 ·obtain ⟨l1,d0,z0,zp⟩:=ex
  have key:∀t2,rL Γ S c m s t2→∃v,t2=some (v,0,m)∧ThR Γ d i v:=by
   rintro t2 ⟨o,i',k',d',h1,h2,h3,h4,h5⟩
   rw [hd] at h1;cases h1
   rw [e] at h3;cases h3
   rw [hx] at h4;cases h4
   rcases h5 with ⟨_,v,g1,g2⟩|⟨n,_⟩
   ·exact ⟨v,g2,g1⟩
   ·exact absurd l1 n
  have ahead:∀v,ThR Γ d i v→∃t1,rL Γ S c p1 s t1∧Rl S t1 (some (v,0,m)):=by
   intro v th
   obtain ⟨f1,f2,f3⟩:=th.facts O
   rw [hx] at f2
   have f2:=Option.some.inj f2
   have hpd:(A1 (Γ.D v).pd).length=0:=by
    rw [←f2] at f3
    obtain ⟨j,hj⟩:=tO f3
    have:j=0:=by have:=(List.getElem?_eq_some_iff.1 hj).1;omega
    subst this
    rw [z0] at hj
    cases hj
    exact zp
   obtain ⟨⟨cv,uv⟩,hv⟩:=Option.ne_none_iff_exists'.1 (K v)
   obtain ⟨tg,ah,sh⟩:=(W v th.1 cv uv hv).shape
   rcases ah with ⟨e1,a1,_⟩|⟨_,a1,_⟩|⟨_,_,s',a',c',u2,q',t0,a1,a2,a3,a4,a5,a6⟩
   ·rw [a1] at hpd;simp at hpd
   ·rw [←f2] at a1;exact absurd hk a1
   ·rw [←f2] at a1
    rw [a1] at hs
    obtain rfl:s=s' :=by simpa using hs
    obtain rfl:a' =d:=om
    rw [hdc] at a3;cases a3
    rw [dl,hl] at a4;cases a4
    refine ⟨t0,a5.ch (ix _ om), ?_⟩
    intro y lv pp ey
    subst ey
    have tv:∃lv2 p2,tg=some (y,lv2,p2):=by
     rcases a6 with ⟨w,_⟩|⟨v1,pt,w1,w2⟩|⟨v1,l1,pt,l2,p2,w1,_,_,w2⟩
     ·cases w
     ·cases w1;exact ⟨_,_,w2⟩
     ·cases w1;exact ⟨_,_,w2⟩
    obtain ⟨lv2,p2,tv⟩:=tv
    rcases sh with ⟨w,_⟩|⟨z,lv3,pt3,cx,ux,u0,b1,b2,b3,b4,_⟩
    ·rw [w] at tv;cases tv
    ·rw [b1] at tv;cases tv
     exact ⟨v,0,m,cx,ux,cv,uv,rfl,b3,hv,by rw [Bn,b4];simp⟩
  obtain ⟨v,th⟩:∃v,ThR Γ d i v:=by
   obtain ⟨e2,h2,h3⟩:=O.th d hdn i x hx (by intro w;rw [w] at l1;simp at l1)
   obtain ⟨o',i',v,g1,g2,g3,g4,_⟩:=O.es _ h2
   rcases BI d i Γ.es 0 (fun e he=>by obtain ⟨p,j,v,_,_,q,_⟩:=O.es e he;exact ⟨p,j,q⟩) with ⟨_,n2⟩|⟨j',v',b,n1,n2⟩
   ·exact absurd h3 (n2 e2 h2)
   ·obtain ⟨o2,i2,w,_,k2,k3,k4,_⟩:=O.es _ (List.mem_of_getElem? n2)
    simp only at k4
    subst k4
    exact ⟨w,k2,_,n1⟩
  obtain ⟨t1,h1,h2⟩:=ahead v th
  refine ⟨t1,h1,fun t2 b2=> ?_⟩
  obtain ⟨v2,rfl,th2⟩:=key t2 b2
  rw [←th.uniq th2]
  exact h2
 ·obtain ⟨q,told,AS,c1,c2,c3,c4⟩:=cd.2 (by simpa [yA] using hk) ex s hs
  rw [dl,hl] at c1
  cases c1
  have lm:(c.take (m+1)).length -1=m:=by rw [List.length_take];omega
  rw [lm] at c3
  refine ⟨told,c2.ch (ix _ om),fun t2 b2=> ?_⟩
  rw [b2.uniq c3 (ix m om).symm]
  intro y lv pp ey
  rcases c4 with w|⟨vo,lo,po,vn,ln,pn,w1,w2,sl,sp,n,l,p,l2,p2,co,uo,cn,un,r1,r2,r3,_⟩
  ·rw [w] at ey;cases ey
  ·rw [w1] at ey;cases ey
   exact ⟨vn,ln,pn,co,uo,cn,un,w2,r1,r2,r3⟩
end Go.Ly
namespace Go.Ly
open Go Go.Am Go.Fs Go.Gn
theorem JP {Γ:Tb}:∀(c d:List Nat) (q:Nat),DO Γ (c++d) q=DO Γ c q++DO Γ d (q+c.length)
 |[],d,q=>rfl
 |x::c,d,q=>by
  rw [List.cons_append,DO,DO,JP c d,List.length_cons,List.append_assoc]
  congr 3
  omega
theorem Em {Γ:Tb} {s:List UInt8} {c:List Nat}:∀m,m≤c.length→∀p∈lT Γ s (c.take m),p<m
 |0,_,p,h=>by cases h
 |m+1,hm,p,h=>by
  obtain ⟨d,hd⟩:∃d,c[m]? =some d:=⟨c[m],List.getElem?_eq_getElem om⟩
  have ih:=Em (Γ:=Γ) (s:=s) (c:=c) m om
  have lm:(c.take m).length=m:=by rw [List.length_take];omega
  rw [A6 hd,DH,lm] at h
  have kR:p∈lT Γ s (c.take m)→p<m+1:=fun w=>by have:=ih p w;omega
  split at h
  ·exact kR h
  ·split at h
   ·exact kR h
   ·split at h
    ·have:=List.mem_singleton.1 h;omega
    ·split at h
     ·rcases List.mem_append.1 h with w|w
      ·exact kR w
      ·have:=List.mem_singleton.1 w;omega
     ·exact kR h
theorem G9 {Γ:Tb} {S:Nat→DY} (O:Γ.Ok) (K:zP S) (W:WF Γ S) {c:List Nat} (G:JK Γ S c) {s:List UInt8} {n p:Nat} {t:Tg} (hl:(lT Γ s (c.take n)).getLast? =some p) (bt:rL Γ S c p s t):
  ∀k,n+k≤c.length→∃p',(lT Γ s (c.take (n+k))).getLast? =some p' ∧p≤p' ∧∀t',rL Γ S c p' s t' →Rl S t t' ∧(p' =p→t' =t)
 |0,_=>⟨p,hl,Nat.le_refl _,fun t' b=>by rw [b.uniq bt rfl];exact ⟨Rl.refl K t,fun _=>rfl⟩⟩
 |k+1,hk=>by
  obtain ⟨d,hd⟩:∃d,c[n+k]? =some d:=⟨c[n+k],List.getElem?_eq_getElem om⟩
  obtain ⟨p',h1,h2,h3⟩:=G9 O K W G hl bt k om
  have pn:p<n:=Em n om p (List.mem_of_getLast? hl)
  have pl:=Em (n+k) om p' (List.mem_of_getLast? h1)
  have ne:lT Γ s (c.take (n+k))≠[]:=by intro w;rw [w] at h1;cases h1
  have lm:(c.take (n+k)).length=n+k:=by rw [List.length_take];omega
  obtain ⟨_,_,D,_⟩:=G _ d hd
  rw [show n+(k+1)=n+k+1 from rfl,A6 hd,DH,lm]
  cases e:pL (aV (Γ.D d).pd) s with
  |none=>exact ⟨p',h1,h2,h3⟩
  |some y=>
   obtain ⟨i,j⟩:=y
   obtain ⟨x,g1,g2,g3,g4⟩:=Sm D e
   simp only [g1]
   by_cases k2:iO x=2
   ·have z:=g4 (by simp [yA,k2])
    have:=Ie G s (n+k) om ne
    omega
   ·rw [if_neg k2]
    by_cases k3:iO x=3∨iO x=4
    ·rw [if_pos ⟨k3,ne⟩]
     obtain ⟨t1,b1,b2⟩:=Qi O K W G hd pl h1 e g1 g2 k3
     exact ⟨n+k,by simp,by omega,fun t' b=>⟨((h3 t1 b1).1).trans (b2 t' b),fun w=>by omega⟩⟩
    ·rw [if_neg (fun w=>k3 w.1)]
     exact ⟨p',h1,h2,h3⟩
theorem Jy {Γ:Tb} {S:Nat→DY} {h:aD} (M:Made Γ S h) {a b:Nat} (ha:a<Γ.n) {ca ua cb ub:List Nat} (hca:(S a).ch=some (ca,ua)) (hb:Ae ca cb=true) {vs ws:List VR} (Fv:NA Γ S cb vs) (Fw:NA Γ S ca ws):
  vs.length≤ws.length∧∀(i:Nat) v,vs[i]? =some v→∃w,ws[i]? =some w∧w.s=v.s∧w.q=v.q∧v.part≤w.part∧(w.part=v.part→w.t=v.t)∧Rl S v.t w.t:=by
 have G:=Un M ha hca
 rw [Bn] at hb
 obtain ⟨hl,ht⟩:=hb
 have e:ws.map LS=vs.map LS++DO Γ (ca.drop cb.length) (0+cb.length):=by
  rw [Fw.1,Fv.1,←JP]
  congr 1
  rw [←ht]
  conv=>lhs;rw [←List.take_append_drop cb.length ca]
  rw [ht]
 have le:vs.length≤ws.length:=by
  have:=congrArg List.length e
  simp at this
  omega
 refine ⟨le,fun i v hv=> ?_⟩
 have hi:=(List.getElem?_eq_some_iff.1 hv).1
 obtain ⟨w,hw⟩:∃w,ws[i]? =some w:=⟨ws[i]'om,List.getElem?_eq_getElem _⟩
 have k:LS w=LS v:=by
  have q:=congrArg (fun l=>l[i]?) e
  simp only [List.getElem?_map,hw,Option.map_some] at q
  rw [List.getElem?_append_left (by simpa using hi),List.getElem?_map,hv] at q
  exact Option.some.inj q
 have k1:w.q=v.q:=congrArg Prod.fst k
 have k2:w.s=v.s:=congrArg Prod.snd k
 obtain ⟨v1,v2⟩:=Fv.2 v (List.mem_of_getElem? hv)
 obtain ⟨w1,w2⟩:=Fw.2 w (List.mem_of_getElem? hw)
 rw [k2] at w1 w2
 have v1' :(lT Γ v.s (ca.take cb.length)).getLast? =some v.part:=by rw [ht];exact v1
 have pl:v.part<cb.length:=Em cb.length hl v.part (List.mem_of_getLast? v1')
 have v2' :rL Γ S ca v.part v.s v.t:=v2.ch (by
  conv=>lhs;rw [←ht]
  exact List.getElem?_take_of_lt pl)
 obtain ⟨p',h1,h2,h3⟩:=G9 M.ok M.all M.wf G v1' v2' (ca.length -cb.length) om
 rw [show cb.length+(ca.length -cb.length)=ca.length from by omega,List.take_length,w1] at h1
 cases h1
 obtain ⟨r1,r2⟩:=h3 _ w2
 exact ⟨w,hw,k2,k1,h2,r2,r1⟩
end Go.Ly
namespace Go.Ly
open Go Go.Am Go.Fs Go.Gn
variable {fns:Go.Am.F} {orc:Orc}
theorem XT (H:Has fns orc) {va vb:AV} {a b:List Nat} (ha:iK va (ints a)) (hb:iK vb (ints b)) (hn:a.length<10000000) (ne:a≠[]) (XI:Ae a b=true) (h:aD):
  Ev fns orc (.call 9 [va,vb] .plain h) (.call (.ret (.bool true)) .plain h):=by
 have HB:Has fns orc:=H
 rw [Bn] at XI
 obtain ⟨hl,ht⟩:=XI
 obtain ⟨tk,rfl⟩:=Ub ha (by intro w;exact ne (List.map_eq_nil_iff.1 w))
 have la:∀hp,mK hp .sl (.sl tk (ints a))= .ok a.length:=fun hp=>by rw [fW,kV]
 have lb:∀hp,mK hp .sl vb= .ok b.length:=fun hp=>by rw [bJ hb hp,kV]
 have d:decide (((b.length:Nat):Int)≤((a.length:Nat):Int))=true:=dT om
 obtain ⟨tk',sl⟩:=F7 (tk:=tk) (wX a) (n:=b.length) (by rw [kV];omega)
 have ei:(ints a).take b.length=ints b:=by rw [show (ints a).take b.length=ints (a.take b.length) by simp [ints,List.map_take],ht]
 rw [ei] at sl
 obtain ⟨n,e⟩:=QJ HB (va:= .sl tk' (ints b)) (vb:=vb) (a:=b) (b:=b) (.sl _ _) hb om h
 rw [show decide (b=b)=true from dT rfl] at e
 refine Ev.call H.f9 H.o9 ⟨n,fun m hm=> ?b⟩
 case b=>
  have e' :=e m hm
  exact SX (cj6 @a9.eq_1 la lb d sl e')
theorem vEq5 (s:List UInt8) (a b c d:Int):zV [.str,.int,.int,.int,.int] (.agg [.str s,.int .i64 a,.int .i64 b,.int .i64 c,.int .i64 d]) (.agg [.str s,.int .i64 a,.int .i64 b,.int .i64 c,.int .i64 d])= .ok true:=by
 have be:jD s s=true:=by rw [jT];simp
 simp [zV,lK,pO,be,ki,iM,aM]
theorem Wt {l vv ww:AV} {i:Nat} {s:List UInt8} {q pv pw:Nat} {lv lw dv dw:Int} (iv:oG 5 vv (.int .i64 (i:Nat))= .ok (.ep [.str s,.int .i64 (q:Nat),.int .i64 (pv:Nat),.int .i64 lv,.int .i64 dv] 0))
  (iw:oG 5 ww (.int .i64 (i:Nat))= .ok (.ep [.str s,.int .i64 (q:Nat),.int .i64 (pw:Nat),.int .i64 lw,.int .i64 dw] 0)) (hp:pv≤pw) (he:pw=pv→lw=lv∧dw=dv) (h:aD) (m:Nat):
  bZ (eval fns orc m) 3 none p3x11111111101001000 ⟨[(8,l),(11,vv),(12,ww),(13,.int .i64 (i:Nat)),(53,.bool true)],[],.plain,h⟩= .ok (.code .normal ⟨[(8,l),(11,vv),(12,ww),(13,.int .i64 (i:Nat)),(116,.bool false)],[],.plain,h⟩):=by
 have be:jD s s=true:=by rw [jT];simp
 have dq:decide (((q:Nat):Int)=((q:Nat):Int))=true:=dT rfl
 have dl:decide (((pw:Nat):Int)<((pv:Nat):Int))=false:=dF om
 by_cases dp:pw=pv
 ·obtain ⟨rfl,rfl⟩:=he dp
  subst dp
  have dp' :decide (((pw:Nat):Int)=((pw:Nat):Int))=true:=dT rfl
  have ve:=vEq5 s (q:Nat) (pw:Nat) lw dw
  exact SX (cj7 iv iw be dq dl dp' ve)
 ·have dp' :decide (((pw:Nat):Int)=((pv:Nat):Int))=false:=dF om
  exact SX (cj6 iv iw be dq dl dp')
theorem Ws (H:Has fns orc) {Γ:Tb} {S:Nat→DY} (W:WF Γ S) {l:AV} {rs:List AV} (hl:iK l rs) (R:JH Γ S rs) {vv ww:AV} {i:Nat} {s s' :List UInt8} {q q' pv pw:Nat} {tv tw:Tg} (iv:oG 5 vv (.int .i64 (i:Nat))= .ok (.ep [.str s,.int .i64 (q:Nat),.int .i64 (pv:Nat),.int .i64 (tLv tv),.int .i64 (tDs tv)] 0))
  (iw:oG 5 ww (.int .i64 (i:Nat))= .ok (.ep [.str s',.int .i64 (q' :Nat),.int .i64 (pw:Nat),.int .i64 (tLv tw),.int .i64 (tDs tw)] 0)) (hv:∀x lv p,tv=some (x,lv,p)→x<Γ.n) (hw:∀x lv p,tw=some (x,lv,p)→x<Γ.n) (rl:Rl S tv tw) (h:aD):
  ∃n,∀m,n≤m→bZ (eval fns orc m) 3 none p3x11111111101001001 ⟨[(8,l),(11,vv),(12,ww),(13,.int .i64 (i:Nat)),(116,.bool false)],[],.plain,h⟩= .ok (.code .normal ⟨[(8,l),(11,vv),(12,ww),(13,.int .i64 (i:Nat)),(152,.bool false)],[],.plain,h⟩):=by
 cases tv with
 |none=>
  have d2:decide ((0:Int)≤ -1)=false:=rfl
  simp only [tLv,tDs] at iv
  refine ⟨0,fun m _=> ?b1⟩
  case b1=>
   exact SX (cj3 iv iw d2)
 |some t=>
  obtain ⟨x,lv',p⟩:=t
  obtain ⟨y,l2,p2,cx,ux,cy,uy,rfl,hx,hyc,hbg⟩:=rl x lv' p rfl
  simp only [tLv,tDs] at iv iw
  have hxn:=hv x lv' p rfl
  have hyn:=hw y l2 p2 rfl
  obtain ⟨vc,vu,vz,c1,u1,vs1,rx,rc,hvc,_⟩:=R.get hxn
  rw [hx] at rc;cases rc
  obtain ⟨vc',vu',vz',c2,u2,vs2,ry,rc',Xi,_⟩:=R.get hyn
  rw [hyc] at rc';cases rc'
  have ix:=jZ hl rx (sz:=7) rfl
  have iy:=jZ hl ry (sz:=7) rfl
  have ex:=uS hvc
  have ey:=uS Xi
  have Fy:=W y hyn _ _ hyc
  have ney:cy≠[]:=by obtain ⟨c0,q,_⟩:=W.last hyn hyc;rw [q];simp
  obtain ⟨n2,e2⟩:=XT H Xi hvc (by have:=Fy.max;omega) ney hbg h
  have d2:decide ((0:Int)≤((x:Nat):Int))=true:=dT om
  have d3:decide (((y:Nat):Int)<0)=false:=dF om
  refine ⟨n2,fun m hm=> ?b2⟩
  case b2=>
   have e2' :=e2 m hm
   exact SX (cj9 iv iw d2 d3 ix iy e2' ex ey)
theorem Ql (H:Has fns orc) {Γ:Tb} {S:Nat→DY} (W:WF Γ S) {l:AV} {rs:List AV} (hl:iK l rs) (R:JH Γ S rs) {vv ww:AV} {vs ws:List VR} (hv:iK vv (vs.map vA)) (hw:iK ww (ws.map vA)) (hvl:vs.length≤200000000)
  (hT:∀w∈ws,∀x lv p,w.t=some (x,lv,p)→x<Γ.n) (hT' :∀w∈vs,∀x lv p,w.t=some (x,lv,p)→x<Γ.n)
  (P:∀(i:Nat) v,vs[i]? =some v→∃w,ws[i]? =some w∧w.s=v.s∧w.q=v.q∧v.part≤w.part∧(w.part=v.part→w.t=v.t)∧Rl S v.t w.t) (h:aD):
  ∀(k i:Nat),i+k=vs.length→∃n ts,∀m,n≤m→bZ (eval fns orc m) 3 none (.loop p3x1111111110100) ⟨[(8,l),(11,vv),(12,ww),(13,.int .i64 (i:Nat))],[],.plain,h⟩= .ok (.code (.exit 0) ⟨ts,[],.plain,h⟩):=by
 have lv:∀hp,mK hp .sl vv= .ok vs.length:=fun hp=>by rw [bJ hv hp,List.length_map]
 intro k
 induction k with
 |zero=>
  intro i hi
  have d:decide ((i:Int)<((vs.length:Nat):Int))=false:=dF om
  refine ⟨0, ?ts0,fun m _=> ?b0⟩
  case b0=>
   rw [aI]
   exact SX (cj2 lv d)
 |succ k ih=>
  intro i hi
  have d:decide ((i:Int)<((vs.length:Nat):Int))=true:=dT om
  obtain ⟨v,hvi⟩:∃v,vs[i]? =some v:=⟨vs[i]'om,List.getElem?_eq_getElem _⟩
  obtain ⟨w,hwi,ws',wq,wp,wt,rl⟩:=P i v hvi
  have iv:oG 5 vv (.int .i64 (i:Nat))= .ok (.ep [.str v.s,.int .i64 (v.q:Nat),.int .i64 (v.part:Nat),.int .i64 (tLv v.t),.int .i64 (tDs v.t)] 0):=jZ hv (by rw [List.getElem?_map,hvi];rfl) rfl
  have iw:oG 5 ww (.int .i64 (i:Nat))= .ok (.ep [.str v.s,.int .i64 (v.q:Nat),.int .i64 (w.part:Nat),.int .i64 (tLv w.t),.int .i64 (tDs w.t)] 0):=jZ hw (by rw [List.getElem?_map,hwi,←ws',←wq];rfl) rfl
  have wr:IntKind.wrap .i64 ((i:Int)+1)=((i+1:Nat):Int):=by rw [mW om om];rfl
  obtain ⟨n,ts,e⟩:=ih (i+1) om
  have eX:=Wt (fns:=fns) (orc:=orc) (l:=l) iv iw wp (fun z=>by rw [wt z];exact ⟨rfl,rfl⟩) h
  obtain ⟨n2,eY⟩:=Ws H W hl R iv iw (hT' v (List.mem_of_getElem? hvi)) (hT w (List.mem_of_getElem? hwi)) rl h
  refine ⟨n+n2+1,ts,fun m hm=> ?b1⟩
  case b1=>
   obtain ⟨m,rfl⟩:∃z,m=z+1:=⟨m -1,by omega⟩
   have eX' :=eX (m+1)
   have eY' :=eY (m+1) om
   have e' :eval fns orc (m+1) (.code 3 none (.loop p3x1111111110100) _)=_:=e m om
   rw [aI]
   exact SXe (cj5 lv d eX' eY' wr) e'
end Go.Ly
namespace Go.Ly
open Go Go.Am Go.Fs Go.Gn
variable {fns:Go.Am.F} {orc:Orc}
theorem rL.lt {Γ:Tb} {S:Nat→DY} {c:List Nat} {q:Nat} {s:List UInt8} {t:Tg} (h:rL Γ S c q s t):∀x lv p,t=some (x,lv,p)→x<Γ.n:=by
 intro x lv p e
 subst e
 obtain ⟨o,i,k,d,_,_,_,_,h5⟩:=h
 rcases h5 with ⟨_,v,th,q⟩|⟨_,e,_,_,q⟩
 ·cases q;exact th.1
 ·rcases q with ⟨w,_⟩|⟨_,_,_,_,_,_,_,_,_,v,_,_,_,_,_,_,_,th,q⟩
  ·cases w
  ·cases q;exact th.1
theorem XU (H:Has fns orc) (N:vP fns orc) (X:yO orc) {d:pG} {cs:List AV} (hv:RV (.desc d) (.agg cs)) (hs:wE (.desc d)) (hn:(Part.desc d).nodes<5000000) (a b:Int) (h:aD):
  ∃h',Ev fns orc (.call 3 [.agg cs,.int .i64 a,.int .i64 b] .plain h) (.call (.ret (.bool true)) .plain h'):=by
 have HB:Has fns orc:=H
 have hcl:=kU hv
 have p7:takeN 7 cs=some cs:=by rw [←hcl];exact aX cs
 obtain ⟨g,s1,s2⟩:=id X
 obtain ⟨h1,h1e⟩:∃x,x=h.push (.cells cs):=⟨_,rfl⟩
 have x1:cont h1 h.next=some cs:=by rw [h1e];exact aS om om
 obtain ⟨h2,g2,⟨n2,e2⟩|⟨Γ,S,⟨n2,e2⟩,M⟩⟩:=N5 HB N hv hs hn h1
 ·have os:=wA (fns:=fns) s1 s2 h2
  refine ⟨h2,Ev.call H.f3 H.o3 ⟨n2+2,fun m hm=> ?b1⟩⟩
  case b1=>
   have os' :=os m om
   have e2' :=e2 m om
   exact SX (cj7 @a3.eq_1 hcl p7 (Eq.symm h1e) x1 e2' os')
 ·obtain ⟨h3,l,rs,g3,⟨n3,e3⟩,hl,hlen,zJ⟩:=Lk HB M
  have R:JH Γ S rs:=⟨hlen,zJ⟩
  have M3:=M.grow g3
  have os:=wA (fns:=fns) s1 s2 h3
  obtain ⟨r,z,⟨n4,e4⟩,cf⟩:=Uw HB M3 a b
  rcases cf with ⟨_,rfl,rfl⟩|⟨i,j,ci,ui,cj,uj,rfl,rfl,hi,hj,hci,hcj,rfl,rfl⟩
  ·refine ⟨h3,Ev.call H.f3 H.o3 ⟨n2+n3+n4+2,fun m hm=> ?b2⟩⟩
   case b2=>
    have os' :=os m om
    have e2' :=e2 m om
    have e3' :=e3 m om
    have e4' :=e4 m om
    exact SX (cj9 @a3.eq_1 hcl p7 (Eq.symm h1e) x1 e2' e3' e4' os')
  ·cases bg:Ae ci cj with
   |false=>
    rw [bg] at e4
    refine ⟨h3,Ev.call H.f3 H.o3 ⟨n2+n3+n4+2,fun m hm=> ?b3⟩⟩
    case b3=>
     have os' :=os m om
     have e2' :=e2 m om
     have e3' :=e3 m om
     have e4' :=e4 m om
     exact SX (cj9 @a3.eq_1 hcl p7 (Eq.symm h1e) x1 e2' e3' e4' os')
   |true=>
    rw [bg] at e4
    obtain ⟨vc,vu,ww,c1,u1,ws,ri,rc,_,_,hw,Fw⟩:=R.get hi
    rw [hci] at rc;cases rc
    obtain ⟨vc',vu',vv,c2,u2,vs,rj,rc',_,_,hvv,Fv⟩:=R.get hj
    rw [hcj] at rc';cases rc'
    have ia:=jZ hl ri (sz:=7) rfl
    have ib:=jZ hl rj (sz:=7) rfl
    obtain ⟨le,P⟩:=Jy (b:=j) (ub:=uj) M3 hi hci bg Fv Fw
    have lv:∀hp,mK hp .sl vv= .ok vs.length:=fun hp=>by rw [bJ hvv hp,List.length_map]
    have lw:∀hp,mK hp .sl ww= .ok ws.length:=fun hp=>by rw [bJ hw hp,List.length_map]
    have dl:decide (((ws.length:Nat):Int)<((vs.length:Nat):Int))=false:=dF om
    obtain ⟨n5,ts,e5⟩:=Ql H M.wf hl R hvv hw (Oe M.ok M.wf hj hcj Fv) (fun w hw=>(Fw.2 w hw).2.lt) (fun w hw=>(Fv.2 w hw).2.lt) P h3 vs.length 0 om
    refine ⟨h3,Ev.call H.f3 H.o3 ⟨n2+n3+n4+n5+2,fun m hm=> ?b4⟩⟩
    case b4=>
     have os' :=os m om
     have e2' :=e2 m om
     have e3' :=e3 m om
     have e4' :=e4 m om
     have e5' :=e5 m om
     simp only [Int.ofNat_zero] at e5'
     exact SX (vU @a3.eq_1 hcl p7 (Eq.symm h1e) x1 e2' e3' e4' ia ib lv lw dl e5' os')
end Go.Ly
end
