/- Parts of a proof. -/
import Derived.Test.YtfpohljcapcliaaGreatDoorZ1
import Derived.Test.YtfpohljcapcliaaGreatDoorZ
import Derived.Test.YtfpohljcapcliaaGreatDoorD
set_option linter.all false
set_option maxHeartbeats 8000000
set_option maxRecDepth 20000
noncomputable section
namespace Go.Ly
open Go Go.Am Go.Fs Go.Gn
theorem K9 {Γ:Tb} {s:List UInt8} {c d:List Nat}:∀n,n≤c.length→EY Γ s (c++d) n=EY Γ s c n
 |0,_=>rfl
 |n+1,h=>by rw [EY,EY,List.getElem?_append_left om,K9 n om]
theorem CQ {Γ:Tb} {s:List UInt8} {c:List Nat} {d:Nat}:uW Γ s (c++[d])=(match pN (aU (Γ.D d).pd) s with
  |some (i,k)=>some (c.length,i,k)
  |none=>uW Γ s c):=by
 unfold uW
 rw [List.length_append,List.length_singleton,EY,List.getElem?_append_right (Nat.le_refl _),Nat.sub_self]
 cases e:pN (aU (Γ.D d).pd) s with
 |none=>simp only [List.getElem?_cons_zero,e];exact K9 _ (Nat.le_refl _)
 |some x=>simp only [List.getElem?_cons_zero,e]
theorem AD {Γ:Tb} {s:List UInt8}:∀{c:List Nat} {d:Nat} (z:Int),Ca Γ s (c++[d]) z=(match pN (aU (Γ.D d).pd) s with
  |none=>Ca Γ s c z
  |some (i,_)=>match (aU (Γ.D d).pd)[i]? with
   |none=>Ca Γ s c z
   |some x=>iR x)
 |[],d,z=>rfl
 |e::c,d,z=>by rw [List.cons_append,Ca,AD,Ca]
theorem NG {Γ:Tb} {d:Nat} {c0:List Nat} (D:uT Γ d c0) {s:List UInt8} {i k:Nat} (h:pN (aU (Γ.D d).pd) s=some (i,k)):∃x,(aU (Γ.D d).pd)[i]? =some x∧s∈fR x∧(xX (iR x)=true→rE Γ s c0=2∨rE Γ s c0=3)∧(xX (iR x)=false→rE Γ s c0=0):=by
 obtain ⟨x,h1,h2,_⟩:=xH h
 obtain ⟨y,g1,g2,_⟩:=Bu h2
 obtain rfl:s=y:=of_decide_eq_true g2
 exact ⟨x,h1,List.mem_of_getElem? g1,(D i x k s h1 g1).2⟩
theorem Su {Γ:Tb} (O:Γ.Ok) {d:Nat} (hd:d<Γ.n) {i:Nat} {x:kV} (h:(aU (Γ.D d).pd)[i]? =some x):1≤iR x:=(BS (O.ok d hd) (List.mem_of_getElem? h)).lo
def Oh (Γ:Tb) (c:List Nat):Prop:=∀q d,c[q]? =some d→d<Γ.n∧uT Γ d (c.take q)
theorem JO {Γ:Tb} {S:Nat→DY} {h:aD} (M:Made Γ S h) {a:Nat} (ha:a<Γ.n) {c u:List Nat} (hc:(S a).ch=some (c,u)):Oh Γ c:=by
 intro q d hq
 obtain ⟨hd,u',hd'⟩:=M.wf.part c.length a c u (Nat.le_refl _) ha hc q d hq
 have D:=(M.ck d hd _ _ hd').1
 rw [vZ hq,List.dropLast_concat] at D
 exact ⟨hd,D⟩
def Mi (Γ:Tb) (s:List UInt8) (c:List Nat):Prop:=∃d∈c,s∈Ci (aU (Γ.D d).pd)
theorem GP {Γ:Tb} (O:Γ.Ok) {c:List Nat} (G:Oh Γ c) (s:List UInt8):∀m,m≤c.length→
  (uW Γ s (c.take m)=none→rE Γ s (c.take m)=0)∧(uW Γ s (c.take m)≠none→rE Γ s (c.take m)≠0)∧(rE Γ s (c.take m)=2∨rE Γ s (c.take m)=3∨rE Γ s (c.take m)=4→Mi Γ s (c.take m))
 |0,_=>⟨fun _=>rfl,fun h=>absurd rfl h,fun h=>by simp [rE,Ca] at h⟩
 |m+1,hm=>by
  obtain ⟨d,hd⟩:∃d,c[m]? =some d:=⟨c[m],List.getElem?_eq_getElem om⟩
  obtain ⟨i1,i2,i3⟩:=GP O G s m om
  obtain ⟨hn,D⟩:=G m d hd
  rw [vZ hd,CQ]
  have mono:Mi Γ s (c.take m)→Mi Γ s (c.take m++[d]):=fun ⟨e,h1,h2⟩=>⟨e,List.mem_append_left _ h1,h2⟩
  unfold rE at*
  rw [AD]
  cases e:pN (aU (Γ.D d).pd) s with
  |none=>exact ⟨i1,i2,fun h=>mono (i3 h)⟩
  |some y=>
   obtain ⟨i,k⟩:=y
   obtain ⟨x,g1,g2,g3,g4⟩:=NG D e
   have kp:=Su O hn g1
   simp only [g1]
   refine ⟨fun h=>(by cases h),fun _=>om,fun h=> ?_⟩
   by_cases k2:iR x=2
   ·exact ⟨d,by simp,List.mem_flatMap.2 ⟨x,List.mem_of_getElem? g1,by rw [if_pos k2];exact g2⟩⟩
   ·refine mono (i3 ?_)
    have:=g3 (by simp only [xX,decide_eq_true_eq];omega)
    unfold rE at this
    omega
end Go.Ly
namespace Go.Ly
open Go Go.Am Go.Fs Go.Gn
variable {fns:Go.Am.F} {orc:Orc}
theorem IA (H:Has fns orc) {Γ:Tb} (O:Γ.Ok):Po fns orc Γ (fun _=>False) Cg:=fun S h _ T W K ha=>
 .ret _ h (xV H O T ha (K _)) (.refl _ _) ⟨rfl,S,.refl _,T,W,K _⟩
theorem JD {S S' :Nat→DY} (K:Cg S) (e:Ext S S'):S' =S:=funext fun i=>e.kY (K i)
theorem OW {Γ:Tb} {S:Nat→DY} {h h' :aD} (T:TB Γ S h) (T' :TB Γ S h') (c:Chg (pJ Γ) h h'):aP h h' :=⟨c.next,fun i hi=>by
 by_cases q:pJ Γ i
 ·obtain ⟨k,hk,rfl⟩:=q
  rw [gM (T'.e_ k hk),gM (T.e_ k hk)]
 ·exact c.get i hi q⟩
theorem K8 (H:Has fns orc) {Γ:Tb} {S:Nat→DY} {h:aD} (M:Made Γ S h) {a:Nat} (ha:a<Γ.n) {c u:List Nat} (hc:(S a).ch=some (c,u)) (s:List UInt8):
  ∃h',aP h h' ∧Ev fns orc (.call 26 [.ptr Γ.tb 0,.int .i64 (a:Nat),.str s] .plain h) (.call (.ret (Ao 0 (uW Γ s c))) .plain h'):=by
 rcases Iq H M.ok (IA H M.ok) M.tb M.wf M.all ha s with ⟨v,h',ev,ch,S',c',u',ext,T',W',hc',rfl⟩|⟨e,h',f,_⟩
 ·obtain rfl:=JD M.all ext
  rw [hc] at hc'
  cases hc'
  exact ⟨h',OW M.tb T' ch,ev⟩
 ·exact f.elim
theorem Ku:∀{l:List Part} {xs:List AV} (n:Nat),RVL l xs→RVL (l.take n) (xs.take n)
 |_,_,0,_=> .nil
 |_,_,_+1,.nil=> .nil
 |_,_,n+1,.cons r h=> .cons r (Ku n h)
theorem Km {dl:List kV} {v:AV} (h:RVs (dl.map Part.decl) v) {n:Nat} (hn:n<dl.length):∃v',tN false 5 v none (some (.int .i64 (n:Int))) none= .ok v' ∧RVs ((dl.take n).map Part.decl) v' :=by
 generalize e:dl.map Part.decl=l at h
 cases h with
 |nil=>
  rw [List.map_eq_nil_iff] at e
  subst e
  simp at hn
 |sl tk hx=>
  rename_i xs
  have hl:xs.length=dl.length:=by rw [hx.length,←e,List.length_map]
  have h3:mR 5 xs=true:=by
   cases hx with
   |nil=>rfl
   |cons r _=>
    cases dl with
    |nil=>cases e
    |cons d dl=>
     cases e
     obtain ⟨c,rfl⟩:=Rr r
     simp only [mR,AV.cells,pG r]
     rfl
  have e2:ile (n:Int) ((xs.length:Nat):Int)=true:=by rw [jE];exact dT om
  refine ⟨.sl (Ea tk none xs.length n 0 xs.length) (xs.take n), ?_, ?_⟩
  ·simp only [tN,PD,h3,Go.Am.bound,tP,aM,yH,e2,uP,Bool.true_and,if_true,List.drop_zero]
  ·rw [List.map_take,e]
   exact .sl _ (Ku n hx)
def AZ (Γ:Tb) (S:Nat→DY) (o i k:Nat):Int:=match (aU (Γ.D o).pd)[i]? with
 |some x=>if xW (iR x)=true then (S o).off+(lB ((aU (Γ.D o).pd).take i):Nat)+(k:Nat) else -1
 |none=> -1
abbrev fC (Γ:Tb) (S:Nat→DY) (lv q o i k:Nat):List AV:=[.int .i64 (lv:Nat),.int .i64 (q:Nat),.int .i64 (o:Nat),.int .i64 (i:Nat),.int .i64 (k:Nat),.int .i64 (AZ Γ S o i k)]
abbrev z6:List AV:=[.int .i64 0,.int .i64 0,.int .i64 0,.int .i64 0,.int .i64 0,.int .i64 0]
theorem DU (l:List kV) (n:Nat):lB (l.take n)≤lB l:=by
 unfold lB
 rw [←List.take_append_drop n l,List.map_append,List.sum_append,List.take_append_drop]
 omega
theorem Ux (H:Has fns orc) {Γ:Tb} {S:Nat→DY} {h:aD} (M:Made Γ S h) {a:Int} (ha: -1≤a∧a<(Γ.n:Int)) {lv q o i k w:Nat} {c u:List Nat} (hup:upF Γ lv a=(w:Int)) (hw:w<Γ.n) (hc:(S w).ch=some (c,u)) (hq:c[q]? =some o) {x:kV} (hx:(aU (Γ.D o).pd)[i]? =some x) (hk:k<(fR x).length):
  ∃h',aP h h' ∧Ev fns orc (.call 45 [.ptr Γ.tb 0,.int .i64 a,.agg [.int .i64 (lv:Nat),.int .i64 (q:Nat),.int .i64 (i:Nat),.int .i64 (k:Nat)]] .plain h) (.call (.ret (.agg (fC Γ S lv q o i k))) .plain h'):=by
 have HB:Has fns orc:=H
 have O:=M.ok
 have hO:=O.lt
 have W:=M.wf
 obtain ⟨hon,uo,hco⟩:=W.part c.length w c u (Nat.le_refl _) hw hc q o hq
 have hlv:=BD O lv ha om
 have ofb:=(W o hon _ _ hco).R4
 have mxo:=(W o hon _ _ hco).max
 have bd:=qB (O.ok o hon)
 have hkb:=bd.2 x (List.mem_of_getElem? hx)
 have hil:i<(aU (Γ.D o).pd).length:=(List.getElem?_eq_some_iff.1 hx).1
 have cl:=yZ (O.ok o hon)
 have ct:=DU (aU (Γ.D o).pd) i
 obtain ⟨hA,hAe⟩:∃x,x=(h.push (.cells [.int .i64 (lv:Nat),.int .i64 (q:Nat),.int .i64 (i:Nat),.int .i64 (k:Nat)])).push (.cells z6):=⟨_,rfl⟩
 have gA:aP h hA:=by rw [hAe];exact gw2
 have nA:hA.next=h.next+2:=by rw [hAe];simp
 have a5:cont hA h.next=some [.int .i64 (lv:Nat),.int .i64 (q:Nat),.int .i64 (i:Nat),.int .i64 (k:Nat)]:=by rw [hAe];exact ctp
 have a6:cont hA (h.next+1)=some z6:=by rw [hAe];exact ctp
 have TA:=M.tb.grow gA
 obtain ⟨n1,e1⟩:=Om HB O TA ha (k:=lv) om
 rw [hup] at e1
 obtain ⟨tk,v2,tT⟩:=TA.t_
 obtain ⟨cw,tkw,vu,cwA,w15,w16,wu,_⟩:=uQ O TA hw hc
 have iq:pT 1 (.sl tkw (ints c)) (.int .i64 (q:Nat))= .ok (.ep [.int .i64 (o:Nat)] 0):=rN (.sl _ _) hq
 have iw:=Γ.at tk hw
 have io:=Γ.at tk hon
 have xe:=Γ.D3 tk
 have ec:=vH tkw c
 obtain ⟨vc',vu',bo,_⟩:=TA.d_ o hon
 have o17:=Sh (O.ok o hon) (S o).busy vc' vu' (S o).off (S o).cl
 obtain ⟨vd,o2,rvd⟩:=FU (O.ok o hon) (S o).busy vc' vu' (S o).off (S o).cl
 obtain ⟨vn,vs,vp,vy,hie,rn,rp,ry,deq,kn,ks,kp,ky⟩:=Ey (O.ok o hon) (S o).busy vc' vu' (S o).off (S o).cl o2 hx
 have ve:=jS rvd
 obtain ⟨y1,y2,y3,y4⟩:dX vn vn=true∧dX vs vs=true∧dX vp vp=true∧dX vy vy=true:=by simpa [jJ,eM,iX,dD,Bool.and_eq_true] using deq
 obtain ⟨hB,hBe⟩:∃x,x=(hA.push (.cells z6)).set hA.next (.cells [.int .i64 (lv:Nat),.int .i64 (q:Nat),.int .i64 (o:Nat),.int .i64 (i:Nat),.int .i64 (k:Nat),.int .i64 (-1)]):=⟨_,rfl⟩
 have gB:aP hA hB:=by rw [hBe];exact gw2
 have nB:hB.next=h.next+3:=by rw [hBe];simp [nA]
 have b9:cont hB hA.next=some [.int .i64 (lv:Nat),.int .i64 (q:Nat),.int .i64 (o:Nat),.int .i64 (i:Nat),.int .i64 (k:Nat),.int .i64 (-1)]:=by rw [hBe];exact aG (by simp)
 have b5:=(aF gB (aO a5)).trans a5
 have b6:=(aF gB (aO a6)).trans a6
 have bB:=(aF gB (aO bo)).trans bo
 obtain ⟨hC,gC,e2⟩:=FG (fns:=fns) (orc:=orc) HB (k:=iR x) (vn:=vn) (vs:=vs) (vp:=vp) (vy:=vy) hB
 have nC:=gC.next
 have c5:=(aF gC (aO b5)).trans b5
 have c6:=(aF gC (aO b6)).trans b6
 have c9:=(aF gC (aO b9)).trans b9
 have bC:=(aF gC (aO bB)).trans bB
 cases ck:xW (iR x) with
 |false=>
  have ef:AZ Γ S o i k= -1:=by simp only [AZ,hx,ck];rfl
  rw [ck] at e2
  simp only [fC,ef]
  obtain ⟨hD,hDe⟩:∃x,x=hC.set (h.next+1) (.cells [.int .i64 (lv:Nat),.int .i64 (q:Nat),.int .i64 (o:Nat),.int .i64 (i:Nat),.int .i64 (k:Nat),.int .i64 (-1)]):=⟨_,rfl⟩
  have d6:cont hD (h.next+1)=some [.int .i64 (lv:Nat),.int .i64 (q:Nat),.int .i64 (o:Nat),.int .i64 (i:Nat),.int .i64 (k:Nat),.int .i64 (-1)]:=by rw [hDe];exact aG om
  refine ⟨hD,by rw [hDe];exact ((gA.trans gB).trans gC).set om om _,Ev.call H.f45 H.o45 ⟨n1+2,fun m hm=> ?b1⟩⟩
  case b1=>
   have e1' :=e1 m om
   have e2' :=e2 m om
   exact SX (dI @a45.eq_1 (Eq.symm hAe) a5 e1' tT iw cwA w15 iq io xe ec (Eq.symm hBe) bB b5 o2 (sC hie ve y1 y2 y3 y4 e2' c9 c6 (Eq.symm hDe) d6))
 |true=>
  have ef:AZ Γ S o i k=(S o).off+(lB ((aU (Γ.D o).pd).take i):Nat)+(k:Nat):=by simp only [AZ,hx,ck,if_true]
  rw [ck] at e2
  obtain ⟨vd',sl,rvd'⟩:=Km rvd hil
  obtain ⟨hD,gD,⟨n3,e3⟩⟩:=Hj HB rvd' (by rw [List.length_take];omega) om hC
  have nD:=gD.next
  have d5:=(aF gD (aO c5)).trans c5
  have d6:=(aF gD (aO c6)).trans c6
  have d9:=(aF gD (aO c9)).trans c9
  have bD:=(aF gD (aO bC)).trans bC
  have w1:IntKind.wrap .i64 ((S o).off+(lB ((aU (Γ.D o).pd).take i):Nat))=(S o).off+(lB ((aU (Γ.D o).pd).take i):Nat):=pE om om
  have w2:IntKind.wrap .i64 ((S o).off+(lB ((aU (Γ.D o).pd).take i):Nat)+(k:Nat))=AZ Γ S o i k:=by rw [ef];exact pE om om
  obtain ⟨hE,hEe⟩:∃x,x=hD.set hA.next (.cells (fC Γ S lv q o i k)):=⟨_,rfl⟩
  have nE:hE.next=hD.next:=by rw [hEe];simp
  have e9:cont hE hA.next=some (fC Γ S lv q o i k):=by rw [hEe];exact aG om
  have e6:cont hE (h.next+1)=some z6:=by rw [hEe,aK om om];exact d6
  obtain ⟨hF,hFe⟩:∃x,x=hE.set (h.next+1) (.cells (fC Γ S lv q o i k)):=⟨_,rfl⟩
  have f6:cont hF (h.next+1)=some (fC Γ S lv q o i k):=by rw [hFe];exact aG om
  refine ⟨hF,by rw [hFe,hEe];exact (((((gA.trans gB).trans gC).trans gD).set om om _).set om (by simp;omega) _),Ev.call H.f45 H.o45 ⟨n1+n3+2,fun m hm=> ?b2⟩⟩
  case b2=>
   have e1' :=e1 m om
   have e2' :=e2 m om
   have e3' :=e3 m om
   exact SX (dI @a45.eq_1 (Eq.symm hAe) a5 e1' tT iw cwA w15 iq io xe ec (Eq.symm hBe) bB b5 o2 (dI hie ve y1 y2 y3 y4 e2' c5 bC bD o17 sl e3' d5 d9 w1 (cj6 w2 (Eq.symm hEe) e9 e6 (Eq.symm hFe) f6)))
end Go.Ly
namespace Go.Ly
open Go Go.Am Go.Fs Go.Gn
variable {fns:Go.Am.F} {orc:Orc}
def sA (Γ:Tb) (S:Nat→DY):Option (Nat×Nat×Nat×Nat×Nat)→AV
 |some (lv,q,o,i,k)=> .tup [.agg (fC Γ S lv q o i k),.int .i64 0]
 |none=> .tup [.agg z6,.int .i64 5]
def KZ:Option (Nat×Nat×Nat×Nat)→AV
 |some (lv,q,i,k)=>Ao lv (some (q,i,k))
 |none=>Ao 0 none
theorem M9 {Γ:Tb} {s:List UInt8} {c:List Nat} {q i k:Nat} (h:uW Γ s c=some (q,i,k)):∃o x,c[q]? =some o∧(aU (Γ.D o).pd)[i]? =some x∧k<(fR x).length:=by
 obtain ⟨_,⟨o,h1,h2⟩,_⟩:=CP h
 obtain ⟨x,h3,h4,_⟩:=xH h2
 exact ⟨o,x,h1,h3,O4 h4⟩
theorem Gt (H:Has fns orc) {Γ:Tb} {S:Nat→DY} {h:aD} (M:Made Γ S h) {x:Int} (q:inT Γ x=false) (s:AV) (fv:AV) (hs:s.cells=[s]) (hf:fv.cells=[fv]):
  ∃h',aP h h' ∧∀m,4≤m→eval fns orc m (.call 25 [.ptr Γ.tb 0,.int .i64 x,s,fv] .plain h)= .ok (.call (.ret (.tup [.agg z6,.int .i64 1])) .plain h'):=by
 have HB:Has fns orc:=H
 obtain ⟨hA,hAe⟩:∃x,x=h.push (.cells z6):=⟨_,rfl⟩
 have gA:aP h hA:=by rw [hAe];exact gw2
 have nA:hA.next=h.next+1:=by rw [hAe];simp
 have a8:cont hA h.next=some z6:=by rw [hAe];exact aR om om
 have hh:=G4 HB (M.grow gA) x
 rw [q] at hh
 obtain ⟨hB,hBe⟩:∃x,x=hA.set h.next (.cells z6):=⟨_,rfl⟩
 have b8:cont hB h.next=some z6:=by rw [hBe];exact aG om
 refine ⟨hB,by rw [hBe];exact gA.set om om _,fun m hm=> ?_⟩
 refine fW (n:=2) H.f25 H.o25 (fun m hm=> ?b) m om
 case b=>
  have hh' :=hh m om
  exact SX (cj6 @a25.eq_1 (Eq.symm hAe) hh' a8 (Eq.symm hBe) b8)
theorem Ig (H:Has fns orc) {Γ:Tb} {S:Nat→DY} {h:aD} (M:Made Γ S h) {a:Nat} (ha:a<Γ.n) (s:List UInt8) {g:Nat} {r:Option (Nat×Nat×Nat×Nat)}
  (F:∃h1,aP (h.push (.cells z6)) h1∧Ev fns orc (.call g [.ptr Γ.tb 0,.int .i64 (a:Nat),.str s] .plain (h.push (.cells z6))) (.call (.ret (KZ r)) .plain h1))
  (R:∀lv q i k,r=some (lv,q,i,k)→∃(w:Nat) (c u:List Nat),upF Γ lv (a:Int)=(w:Int)∧w<Γ.n∧(S w).ch=some (c,u)∧uW Γ s c=some (q,i,k)):
  ∃h' v,aP h h' ∧Ev fns orc (.call 25 [.ptr Γ.tb 0,.int .i64 (a:Nat),.str s,.fn g [.ptr Γ.tb 0] []] .plain h) (.call (.ret v) .plain h')∧
   ((r=none∧v=sA Γ S none)∨∃lv q o i k w c u,r=some (lv,q,i,k)∧upF Γ lv (a:Int)=((w:Nat):Int)∧w<Γ.n∧(S w).ch=some (c,u)∧uW Γ s c=some (q,i,k)∧c[q]? =some o∧v=sA Γ S (some (lv,q,o,i,k))):=by
 have HB:Has fns orc:=H
 have hO:=M.ok.lt
 obtain ⟨hA,hAe⟩:∃x,x=h.push (.cells z6):=⟨_,rfl⟩
 rw [←hAe] at F
 have gA:aP h hA:=by rw [hAe];exact gw2
 have nA:hA.next=h.next+1:=by rw [hAe];simp
 have a8:cont hA h.next=some z6:=by rw [hAe];exact aR om om
 have hh:=G4 HB (M.grow gA) (a:Int)
 have q:inT Γ (a:Int)=true:=by simp [inT];omega
 rw [q] at hh
 obtain ⟨h1,g1,⟨n1,e1⟩⟩:=F
 have nn1:=g1.next
 have x8:=(aF g1 (aO a8)).trans a8
 cases r with
 |none=>
  obtain ⟨hB,hBe⟩:∃x,x=(h1.push (.cells [.int .i64 0,.int .i64 0,.int .i64 0,.int .i64 0])).set h1.next (.cells [.int .i64 0,.int .i64 0,.int .i64 0,.int .i64 0]):=⟨_,rfl⟩
  have gB:aP h1 hB:=by rw [hBe];exact gw2
  have nB:hB.next=h1.next+1:=by rw [hBe];simp
  have b8:=(aF gB (aO x8)).trans x8
  obtain ⟨hC,hCe⟩:∃x,x=hB.set h.next (.cells z6):=⟨_,rfl⟩
  have c8:cont hC h.next=some z6:=by rw [hCe];exact aG om
  refine ⟨hC,_,by rw [hCe];exact ((gA.trans g1).trans gB).set om om _,Ev.call H.f25 H.o25 ⟨n1+2,fun m hm=> ?b1⟩,.inl ⟨rfl,rfl⟩⟩
  case b1=>
   have hh' :=hh m om
   have e1' :=e1 m om
   simp only [KZ,Ao] at e1'
   exact SX (tR @a25.eq_1 (Eq.symm hAe) hh' e1' (Eq.symm hBe) b8 (Eq.symm hCe) c8 @sA.eq_1 @sA.eq_2)
 |some y=>
  obtain ⟨lv,p,i,k⟩:=y
  obtain ⟨w,c,u,r1,r2,r3,r4⟩:=R lv p i k rfl
  obtain ⟨o,x,r5,r6,r7⟩:=M9 r4
  obtain ⟨hB,hBe⟩:∃x,x=(h1.push (.cells [.int .i64 0,.int .i64 0,.int .i64 0,.int .i64 0])).set h1.next (.cells [.int .i64 (lv:Nat),.int .i64 (p:Nat),.int .i64 (i:Nat),.int .i64 (k:Nat)]):=⟨_,rfl⟩
  have gB:aP h1 hB:=by rw [hBe];exact gw2
  have nB:hB.next=h1.next+1:=by rw [hBe];simp
  have b10:cont hB h1.next=some [.int .i64 (lv:Nat),.int .i64 (p:Nat),.int .i64 (i:Nat),.int .i64 (k:Nat)]:=by rw [hBe];exact aG (by simp)
  have b8:=(aF gB (aO x8)).trans x8
  obtain ⟨h2,g2,⟨n2,e2⟩⟩:=Ux H (((M.grow gA).grow g1).grow gB) (a:=(a:Int)) om r1 r2 r3 r5 r6 r7
  have nn2:=g2.next
  have y8:=(aF g2 (aO b8)).trans b8
  obtain ⟨hC,hCe⟩:∃x,x=h2.set h.next (.cells (fC Γ S lv p o i k)):=⟨_,rfl⟩
  have c8:cont hC h.next=some (fC Γ S lv p o i k):=by rw [hCe];exact aG om
  refine ⟨hC,_,by rw [hCe];exact (((gA.trans g1).trans gB).trans g2).set om om _,Ev.call H.f25 H.o25 ⟨n1+n2+2,fun m hm=> ?b2⟩,.inr ⟨lv,p,o,i,k,w,c,u,rfl,r1,r2,r3,r4,r5,rfl⟩⟩
  case b2=>
   have hh' :=hh m om
   have e1' :=e1 m om
   have e2' :=e2 m om
   simp only [KZ,Ao] at e1'
   exact SX (qC @a25.eq_1 (Eq.symm hAe) hh' e1' (Eq.symm hBe) b10 e2' y8 (Eq.symm hCe) c8 @sA.eq_1 @sA.eq_2)
def Az (Γ:Tb) (s:List UInt8) (c:List Nat):Option (Nat×Nat×Nat×Nat×Nat):=(uW Γ s c).map fun x=>(0,x.1,c.getD x.1 0,x.2.1,x.2.2)
theorem IH (H:Has fns orc) {Γ:Tb} {S:Nat→DY} {h:aD} (M:Made Γ S h) (x:Int) (s:List UInt8):
  ∃h' v,aP h h' ∧Ev fns orc (.call 9 [.ptr Γ.tb 0,.int .i64 x,.str s] .plain h) (.call (.ret v) .plain h')∧
   ((inT Γ x=false∧v= .tup [.agg z6,.int .i64 1])∨∃(a:Nat) (c u:List Nat),x=(a:Int)∧a<Γ.n∧(S a).ch=some (c,u)∧v=sA Γ S (Az Γ s c)):=by
 have HB:Has fns orc:=H
 obtain ⟨hA,hAe⟩:∃x,x=h.push (.cells z6):=⟨_,rfl⟩
 have gA:aP h hA:=by rw [hAe];exact gw2
 have nA:hA.next=h.next+1:=by rw [hAe];simp
 have a6:cont hA h.next=some z6:=by rw [hAe];exact aR om om
 have MA:=M.grow gA
 have fin:∀{v0:List AV} {e:Int} {h1:aD},v0.length=6→v0.all AV.bX=true→aP hA h1→Ev fns orc (.call 25 [.ptr Γ.tb 0,.int .i64 x,.str s,.fn 26 [.ptr Γ.tb 0] []] .plain hA) (.call (.ret (.tup [.agg v0,.int .i64 e])) .plain h1)→
   ∃h',aP h h' ∧Ev fns orc (.call 9 [.ptr Γ.tb 0,.int .i64 x,.str s] .plain h) (.call (.ret (.tup [.agg v0,.int .i64 e])) .plain h'):=by
  rintro v0 e h1 hl hcl g1 ⟨n1,e1⟩
  have nn1:=g1.next
  have x6:=(aF g1 (aO a6)).trans a6
  obtain ⟨hC,hCe⟩:∃x,x=h1.set h.next (.cells v0):=⟨_,rfl⟩
  have c6:cont hC h.next=some v0:=by rw [hCe];exact aG om
  have st:kG h1 6 (.ptr h.next 0) (.agg v0)= .ok hC:=by
   rw [hCe]
   simp only [iS,x6,iO,AV.cells,List.length_cons,List.length_nil,hl,hcl]
   match v0,hl with
   |[_,_,_,_,_,_],_=>rfl
  have p6:takeN 6 v0=some v0:=by rw [←hl];exact aW v0
  refine ⟨hC,by rw [hCe];exact (gA.trans g1).set om om _,Ev.call H.f9 H.o9 ⟨n1+2,fun m hm=> ?b⟩⟩
  case b=>
   have e1' :=e1 m om
   exact SS (cj6 @a9.eq_1 (Eq.symm hAe) e1' st c6 p6)
 cases q:inT Γ x with
 |false=>
  obtain ⟨h1,g1,e1⟩:=Gt H MA q (.str s) (.fn 26 [.ptr Γ.tb 0] []) rfl rfl
  obtain ⟨h',g,ev⟩:=fin (v0:=z6) (e:=1) (h1:=h1) rfl rfl g1 ⟨4,e1⟩
  exact ⟨h',_,g,ev,.inl ⟨rfl,rfl⟩⟩
 |true=>
  simp only [inT,Bool.and_eq_true,decide_eq_true_eq] at q
  obtain ⟨a,rfl⟩:∃a:Nat,x=(a:Int):=⟨x.toNat,by omega⟩
  have ha:a<Γ.n:=om
  obtain ⟨⟨c,u⟩,hc⟩:=Option.ne_none_iff_exists'.1 (M.all a)
  obtain ⟨h1,g1,ev1⟩:=K8 HB (MA.grow (.push hA (.cells z6))) ha hc s
  have er:Ao 0 (uW Γ s c)=KZ ((uW Γ s c).map fun x=>(0,x.1,x.2.1,x.2.2)):=by
   cases uW Γ s c with
   |none=>rfl
   |some y=>rfl
  rw [er] at ev1
  obtain ⟨h2,v,g2,ev2,hv⟩:=Ig H MA ha s ⟨h1,g1,ev1⟩ (fun lv q i k hr=>by
   cases hm:uW Γ s c with
   |none=>rw [hm] at hr;cases hr
   |some y=>
    rw [hm] at hr
    cases hr
    exact ⟨a,c,u,rfl,ha,hc,hm⟩)
  have hv' :v=sA Γ S (Az Γ s c):=by
   rcases hv with ⟨hr,rfl⟩|⟨lv,q,o,i,k,w,c',u',hr,h1,h2,h3,h4,h5,rfl⟩
   ·cases hm:uW Γ s c with
    |none=>simp only [Az,hm];rfl
    |some y=>rw [hm] at hr;cases hr
   ·cases hm:uW Γ s c with
    |none=>rw [hm] at hr;cases hr
    |some y=>
     rw [hm] at hr
     cases hr
     obtain rfl:a=w:=by simp only [upF] at h1;omega
     rw [hc] at h3
     cases h3
     rw [hm] at h4
     cases h4
     simp only [Az,hm,Option.map,List.getD_eq_getElem?_getD,h5,Option.getD_some]
  have both:∃v0 e,v= .tup [.agg v0,.int .i64 e]∧v0.length=6∧v0.all AV.bX=true:=by
   rw [hv']
   cases Az Γ s c with
   |none=>exact ⟨_,_,rfl,rfl,rfl⟩
   |some y=>exact ⟨_,_,rfl,rfl,rfl⟩
  obtain ⟨v0,e,rfl,hl,hcl⟩:=both
  obtain ⟨h',g,ev⟩:=fin hl hcl g2 ev2
  exact ⟨h',_,g,ev,.inr ⟨a,c,u,rfl,ha,hc,hv'⟩⟩
theorem Ft (H:Has fns orc) {Γ:Tb} {S:Nat→DY} {h:aD} (M:Made Γ S h) {i:Nat} {c u:List Nat} (hi:i<Γ.n) (hc:(S i).ch=some (c,u)) (s:List UInt8):
  ∃h',aP h h' ∧Ev fns orc (.call 9 [.ptr Γ.tb 0,.int .i64 (i:Nat),.str s] .plain h) (.call (.ret (sA Γ S (Az Γ s c))) .plain h'):=by
 obtain ⟨h1,v,g1,ev,hv⟩:=IH H M (i:Int) s
 refine ⟨h1,g1, ?_⟩
 rcases hv with ⟨hw,_⟩|⟨w',c',u',hw,_,hc',rfl⟩
 ·have:inT Γ (i:Int)=true:=by simp [inT];omega
  rw [this] at hw
  cases hw
 ·obtain rfl:i=w' :=om
  rw [hc] at hc'
  cases hc'
  exact ev
end Go.Ly
end
