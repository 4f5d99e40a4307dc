/- Parts of a proof. -/
import Derived.Shelf.Strings.Search1
import Derived.Shelf.Strings.Search2
import Derived.Shelf.Strings.Search3
import Derived.Shelf.LaysM
import Derived.Shelf.Strings.Shaped
import Derived.Test.YtfpohljcapcliaaGreatDoorProg
import Derived.Test.YtfpohljcapcliaaGreatDoorRows
import Derived.Test.YtfpohljcapcliaaGreatDoorV4
import Derived.ChangeArms
import Derived.DataReads
import Derived.Test.YtfpohljcapcliaaGreatDoorZ1
import Derived.Below
set_option linter.all false
noncomputable section
namespace Go.Proofs
open Go.Shelf
def Tryz.Jq:Go.Shelf.Ren:=⟨fun|143=>172|219=>177|217=>180|225=>181|224=>182|267=>183|266=>185|314=>186|n=>n,fun|9=>9|3=>3|4=>4|5=>5|46=>242|146=>249|51=>246|n=>n,fun|1=>1|n=>n⟩
theorem Tryz.Lk:Go.Proofs.LaysM.n143 Tryz.prog Tryz.Jq:={
 mixed:=by kernel_rfl
 f143:=Tryz.func172.trans (congrArg some (by kernel_rfl))
 f217:=Tryz.func180.trans (congrArg some (by kernel_rfl))
 f219:=Tryz.func177.trans (congrArg some (by kernel_rfl))
 f224:=Tryz.func182.trans (congrArg some (by kernel_rfl))
 f225:=Tryz.func181.trans (congrArg some (by kernel_rfl))
 f266:=Tryz.func185.trans (congrArg some (by kernel_rfl))
 f267:=Tryz.func183.trans (congrArg some (by kernel_rfl))
 f314:=Tryz.func186.trans (congrArg some (by kernel_rfl))
 t3:=Tryz.underlying3
 a3:=Tryz.isAgg3
 z3:=Tryz.sizeOf3
 v3:=Tryz.zeroValue3
 t4:=Tryz.underlying4
 a4:=Tryz.isAgg4
 z4:=Tryz.sizeOf4
 v4:=Tryz.zeroValue4
 t5:=Tryz.underlying5
 a5:=Tryz.isAgg5
 z5:=Tryz.sizeOf5
 v5:=Tryz.zeroValue5
 t9:=Tryz.underlying9
 a9:=Tryz.isAgg9
 z9:=Tryz.sizeOf9
 v9:=Tryz.zeroValue9
 t46:=Tryz.underlying242
 a46:=Tryz.isAgg242
 z46:=Tryz.sizeOf242
 v46:=Tryz.zeroValue242
 t51:=Tryz.underlying246
 a51:=Tryz.isAgg246
 z51:=Tryz.sizeOf246
 v51:=Tryz.zeroValue246
 t146:=Tryz.underlying249
 a146:=Tryz.isAgg249
 z146:=Tryz.sizeOf249
 v146:=Tryz.zeroValue249
 g1:=by kernel_rfl
 i3:=by kernel_rfl
 i4:=by kernel_rfl
 i5:=by kernel_rfl
 i9:=by kernel_rfl
 i46:=by kernel_rfl
 i51:=by kernel_rfl
 i146:=by kernel_rfl
 m1:=by kernel_rfl
 s1_3:=fun w h=>Go.Proofs.cell_of_shapedOpen_int (zero:= #[.int .i64 0]) (t:=3) h (of_decide_eq_true (by kernel_rfl)) (by kernel_rfl) rfl (by kernel_rfl) (by kernel_rfl) Tryz.underlying3}
open Go.RowKit Go.Lib in
theorem Tryz.GI (w:World) (h:w.ShapedOpen Tryz.prog):∃m,w.cell? ⟨1,0,none⟩=some (.int .i64 m):=Tryz.Lk.s1_3 w h
open Go.RowKit Go.Lib in
theorem Tryz.strings_Index (s sub:ByteArray) (m:Int) (w:World) (hs:s.size<4294967281) (hm:w.cell? ⟨1,0,none⟩=some (.int .i64 m)):
  Calls Tryz.prog 172 #[.string s,.string sub] w fun e w' =>e= .returned (.int .i64 (Lib.index s.data.toList sub.data.toList))∧w' =w:=Any.strings_Index {Tryz.Lk with} s sub m w hs hm
end Go.Proofs
namespace Go.Proofs.YtfpohljcapcliaaGreatDoor
open Go Go.Am Go.Fs Go.Gn Go.Ly
def AI (W:World):Mem:={ρ:=fun _=>none,imm:=fun b o=>W.cell? ⟨b,o,none⟩,own:=fun _=>none,bsz:=fun _=>0}
theorem Py {W:World} {a:Addr} {v:Value} (h:W.cell? a=some v):a.spot=none:=by
 unfold World.cell? at h
 split at h
 ·split at h
  ·cases h
  ·rename_i q;simpa using q
 ·cases h
theorem OJ {m:Mem} {f:Nat→List AV} {g:Nat→List Value}:∀(l:List Nat),(∀i∈l,LR m (f i) (g i))→LR m (l.flatMap f) (l.flatMap g)
 |[],_=>LR.nil m
 |i::l,h=>by
  rw [List.flatMap_cons,List.flatMap_cons]
  exact (h i (by simp)).append (OJ l fun j hj=>h j (by simp [hj]))
theorem O0 {α:Type} {g:Nat→List α} {k:Nat}:∀(len:Nat),(∀i,i<len→(g i).length=k)→∀(p:Nat) v,((List.range len).flatMap g)[p]? =some v→∃i j,i<len∧j<k∧p=i*k+j∧(g i)[j]? =some v
 |0,_,p,v,h=>by simp at h
 |len+1,hg,p,v,h=>by
  rw [List.range_succ,List.flatMap_append] at h
  have hl:((List.range len).flatMap g).length=len*k:=by
   clear h
   have hg' :∀i,i<len→(g i).length=k:=fun i hi=>hg i om
   clear hg
   induction len with
   |zero=>simp
   |succ n ih=>rw [List.range_succ,List.flatMap_append,List.length_append,ih (fun i hi=>hg' i om)];simp [hg' n om,Nat.succ_mul]
  by_cases q:p<len*k
  ·rw [List.getElem?_append_left om] at h
   obtain ⟨i,j,h1,h2,h3,h4⟩:=O0 len (fun i hi=>hg i om) p v h
   exact ⟨i,j,by omega,h2,h3,h4⟩
  ·rw [List.getElem?_append_right om,hl] at h
   simp at h
   have:=(List.getElem?_eq_some_iff.1 h).1
   rw [hg len om] at this
   exact ⟨len,p -len*k,by omega,this,by omega,h⟩
theorem G8 {α β:Type} {f g:α→List β}:∀(l:List α),(∀i∈l,f i=g i)→l.flatMap f=l.flatMap g
 |[],_=>rfl
 |i::l,h=>by rw [List.flatMap_cons,List.flatMap_cons,h i (by simp),G8 l fun j hj=>h j (by simp [hj])]
theorem TM {α:Type} {len:Nat} {p:Nat→α→Prop} (a0:α) (h:∀i,i<len→∃x,p i x):∃f:Nat→α,∀i,i<len→p i (f i):=by
 have:∀i:Nat,∃x:α,i<len→p i x:=fun i=>by
  by_cases q:i<len
  ·obtain ⟨x,hx⟩:=h i q
   exact ⟨x,fun _=>hx⟩
  ·exact ⟨a0,fun w=>absurd w q⟩
 exact ⟨fun i=>Classical.choose (this i),fun i hi=>Classical.choose_spec (this i) hi⟩
section
variable {H:Type} {enc:TypeId×Value→H} {W:World}
def Rd (enc:TypeId×Value→H) (W:World) (t n:Nat) (E:DataW H→List AV→Prop):Prop:=
 ∀cs x,DataW.trod enc Tryz.prog W 0 (fun _=>true) true n t cs=some x→∃ys,LR (AI W) ys cs∧E x.1 ys
theorem Ky {t e k n:Nat} (ht:Tryz.prog.underlying t=some (.slice e)) (hk:Tryz.prog.cellsOf e=k) (hk0:0<k) {E:DataW H→List AV→Prop} {mk:List AV→AV}
  (hE:∀d ys,E d ys→(mk ys).cells=ys∧ys.length=k∧ys.all AV.bX=true) (K:∀n',n' <n→Rd enc W e n' E) {cs:List Value} {x:DataW H×List MemPlace}
  (h:DataW.trod enc Tryz.prog W 0 (fun _=>true) true n t cs=some x):
  ∃v,LR (AI W) [v] cs∧((v= .aC∧x.1= .nil)∨∃(ds rest:List (DataW H)) (f:Nat→List AV),x.1= .slice ds rest∧v= .sl .dead ((List.range ds.length).map fun i=>mk (f i))∧∀i d,ds[i]? =some d→E d (f i)):=by
 rcases DataW.trod_slice ht h with ⟨rfl,rfl⟩|⟨a,len,cap,elems,rest,n',rfl,rfl,rfl,_,hlc,_,hlen,hel,hsp,_⟩
 ·exact ⟨.aC,LR.one .aC,.inl ⟨rfl,rfl⟩⟩
 rw [hk] at hel hsp
 have each:∀i,i<len→∃p:List AV×List Value,W.cells? 0 (a.add (i*k)) k=some p.2∧LR (AI W) p.1 p.2∧∀d,(elems.map (·.1))[i]? =some d→E d p.1:=fun i hi=>by
  have hi' :i<elems.length:=om
  have h1:=hel i hi
  rw [List.getElem?_eq_getElem hi'] at h1
  obtain ⟨csi,h2,h3⟩:=Option.bind_eq_some_iff.1 h1
  obtain ⟨ys,h4,h5⟩:=K n' om csi _ h3
  refine ⟨(ys,csi),h2,h4,fun d hd=> ?_⟩
  rw [List.getElem?_map,List.getElem?_eq_getElem hi'] at hd
  cases hd
  exact h5
 obtain ⟨f,hf⟩:=TM ([],[]) each
 have V7:a.spot=none∨cap=0:=by
  by_cases hc:cap=0
  ·exact .inr hc
  ·left
   have Db:∃i csi,W.cells? 0 (a.add (i*k)) k=some csi∧i=0:=by
    by_cases hl0:0<len
    ·exact ⟨0,_,(hf 0 hl0).1,rfl⟩
    ·obtain ⟨r1,r2⟩:=hsp rfl
     have h1:=r2 0 om
     rw [List.getElem?_eq_getElem om] at h1
     obtain ⟨csi,h2,_⟩:=Option.bind_eq_some_iff.1 h1
     obtain rfl:len=0:=om
     exact ⟨0,csi,h2,rfl⟩
   obtain ⟨i,csi,h1,rfl⟩:=Db
   obtain ⟨_,h3,h4⟩:=World.cells?_some h1
   have h5:=h4 0 hk0
   rw [List.getElem?_eq_getElem om] at h5
   have:=Py h5
   simpa [Addr.add] using this
 have Nr:∀i,i<len→∃d,E d (f i).1:=fun i hi=>by
  have hi' :i<elems.length:=om
  exact ⟨_,(hf i hi).2.2 _ (by rw [List.getElem?_map,List.getElem?_eq_getElem hi'];rfl)⟩
 have hfl:((List.range len).map fun i=>mk (f i).1).flatMap AV.cells=(List.range len).flatMap fun i=>(f i).1:=by
  rw [List.flatMap_map]
  refine G8 _ fun i hi=> ?_
  obtain ⟨d,hd⟩:=Nr i (List.mem_range.1 hi)
  exact (hE d _ hd).1
 have hLR:=OJ (m:=AI W) (f:=fun i=>(f i).1) (g:=fun i=>(f i).2) (List.range len) (fun i hi=>(hf i (List.mem_range.1 hi)).2.1)
 have hgk:∀i,i<len→(f i).2.length=k:=fun i hi=>(World.cells?_some (hf i hi).1).2.1
 refine ⟨.sl .dead ((List.range len).map fun i=>mk (f i).1), ?_,.inr ⟨elems.map (·.1),rest.map (·.1),fun i=>(f i).1,rfl,by rw [List.length_map,hlen],fun i d hd=> ?_⟩⟩
 ·have hv:=VR.sl (m:=AI W) .dead ((List.range len).map fun i=>mk (f i).1) ((List.range len).flatMap fun i=>(f i).2) a.block a.off cap k a.spot
   (fun x hx=>by
    obtain ⟨i,hi,rfl⟩:=List.mem_map.1 hx
    obtain ⟨d,hd⟩:=Nr i (List.mem_range.1 hi)
    rw [(hE d _ hd).1]
    exact (hE d _ hd).2.1)
   (by rw [hfl];exact hLR.1) (by rw [hfl];exact hLR.2)
   (fun p v hp=>by
    obtain ⟨i,j,h1,h2,h3,h4⟩:=O0 len hgk p v hp
    obtain ⟨_,h5,h6⟩:=World.cells?_some (hf i h1).1
    have h7:=h6 j h2
    rw [h4] at h7
    rcases V7 with q|q
    ·obtain ⟨b,o,sp⟩:=a
     obtain rfl:sp=none:=q
     rw [rR,rR] at h7
     show W.cell? ⟨b,o+p,none⟩=some v
     rw [h3,←Nat.add_assoc]
     exact h7
    ·omega)
   (by
    rw [hfl,List.all_flatMap,List.all_eq_true]
    intro i hi
    obtain ⟨d,hd⟩:=Nr i (List.mem_range.1 hi)
    exact (hE d _ hd).2.2)
   (by simpa using hlc) (fun w=>by cases w) (fun t e w=>by cases w)
   (by rcases V7 with q|q;exact .inl q;exact .inr ⟨q,fun t e w=>by cases w⟩)
  rw [List.length_map,List.length_range] at hv
  exact LR.one hv
 ·have:i<len:=by have:=(List.getElem?_eq_some_iff.1 hd).1;simp at this;omega
  exact (hf i this).2.2 d hd
end
end Go.Proofs.YtfpohljcapcliaaGreatDoor
namespace Go.Proofs.YtfpohljcapcliaaGreatDoor
open Go Go.Am Go.Fs Go.Gn Go.Ly
def Fit (p:Part) (b:Nat):Prop:=p.nodes≤b∧(b≤1048576→wP p)
def FitL (ps:List Part) (b:Nat):Prop:=(ps.map Part.nodes).sum+1≤b∧(b≤1048576→∀q∈ps,wP q)
def PE {H X:Type} (inj:X→Part) (k:Nat) (d:DataW H) (ys:List AV):Prop:=
 ys.length=k∧ys.all AV.bX=true∧∃p,RV (inj p) (.agg ys)∧Fit (inj p) (Rows.uptoBulk d)
section
variable {H:Type} {enc:TypeId×Value→H} {W:World}
theorem KH {X:Type} {inj:X→Part} {k:Nat}:∀(ds:List (DataW H)) (g:Nat→List AV),(∀i d,ds[i]? =some d→PE inj k d (g i))→
  ∃l:List X,RVL (l.map inj) ((List.range ds.length).map fun i=>AV.agg (g i))∧((l.map inj).map Part.nodes).sum≤Rows.uptoBulkAll ds∧(Rows.uptoBulkAll ds≤1048576→∀q∈l.map inj,wP q)
 |[],_,_=>⟨[],.nil,Nat.le_refl _,fun _ q hq=>by simp at hq⟩
 |d::ds,g,h=>by
  obtain ⟨l,h1,h2,h3⟩:=KH ds (fun i=>g (i+1)) (fun i d hd=>h (i+1) d hd)
  obtain ⟨_,_,p,r,f1,f2⟩:=h 0 d rfl
  refine ⟨p::l, ?_, ?_,fun hb q hq=> ?_⟩
  ·simp only [List.length_cons,List.range_succ_eq_map,List.map_cons,List.map_map]
   exact .cons r h1
  ·simp only [List.map_cons,List.sum_cons,Rows.uptoBulkAll]
   omega
  ·simp only [Rows.uptoBulkAll] at hb
   rw [List.map_cons] at hq
   rcases List.mem_cons.1 hq with rfl|hq
   ·exact f2 om
   ·exact h3 om q hq
theorem tL {X:Type} {inj:X→Part} {t e k n:Nat} (ht:Tryz.prog.underlying t=some (.slice e)) (hk:Tryz.prog.cellsOf e=k) (hk0:0<k) (K:∀n',n' <n→Rd enc W e n' (PE inj k)) {cs:List Value} {x:DataW H×List MemPlace}
  (h:DataW.trod enc Tryz.prog W 0 (fun _=>true) true n t cs=some x):∃v,∃l:List X,LR (AI W) [v] cs∧RVs (l.map inj) v∧FitL (l.map inj) (Rows.uptoBulk x.1)∧v.bX=true:=by
 obtain ⟨v,r,⟨rfl,q⟩|⟨ds,rest,f,q,rfl,hf⟩⟩:=Ky (mk:=AV.agg) ht hk hk0 (fun d ys hd=>⟨rfl,hd.1,hd.2.1⟩) K h
 ·refine ⟨_,[],r,.nil,⟨?_,fun _ q hq=>by simp at hq⟩,rfl⟩
  rw [q];simp [Rows.uptoBulk]
 ·obtain ⟨l,h1,h2,h3⟩:=KH ds f hf
  refine ⟨_,l,r,.sl _ h1,⟨?_,fun hb=> ?_⟩,rfl⟩
  ·rw [q];simp only [Rows.uptoBulk];omega
  ·rw [q] at hb;simp only [Rows.uptoBulk] at hb;exact h3 om
def SE (d:DataW H) (ys:List AV):Prop:=∃s:List UInt8,ys=[.str s]∧s.length+1=Rows.uptoBulk d
theorem KY:∀(ds:List (DataW H)) (g:Nat→List AV),(∀i d,ds[i]? =some d→SE d (g i))→
  ∃l:List (List UInt8),(List.range ds.length).map (fun i=>(g i).headD .unk)=l.map AV.str∧l.length≤Rows.uptoBulkAll ds∧∀s∈l,s.length≤Rows.uptoBulkAll ds
 |[],_,_=>⟨[],rfl,Nat.le_refl _,fun _ hq=>by simp at hq⟩
 |d::ds,g,h=>by
  obtain ⟨l,h1,h2,h3⟩:=KY ds (fun i=>g (i+1)) (fun i d hd=>h (i+1) d hd)
  obtain ⟨s,q1,q2⟩:=h 0 d rfl
  refine ⟨s::l, ?_, ?_,fun z hz=> ?_⟩
  ·rw [List.length_cons,List.range_succ_eq_map,List.map_cons,List.map_map,List.map_cons,q1,←h1];rfl
  ·simp only [List.length_cons,Rows.uptoBulkAll];omega
  ·simp only [Rows.uptoBulkAll]
   rcases List.mem_cons.1 hz with rfl|hz
   ·omega
   ·have:=h3 z hz;omega
theorem k9:Tryz.prog.cellsOf 9=1:=by kernel_rfl
theorem k3:Tryz.prog.cellsOf 3=1:=by kernel_rfl
theorem k4:Tryz.prog.cellsOf 4=1:=by kernel_rfl
theorem k22:Tryz.prog.cellsOf 22=1:=by kernel_rfl
theorem k23:Tryz.prog.cellsOf 23=1:=by kernel_rfl
theorem k24:Tryz.prog.cellsOf 24=1:=by kernel_rfl
theorem k52:Tryz.prog.cellsOf 36=1:=by kernel_rfl
theorem k88:Tryz.prog.cellsOf 61=1:=by kernel_rfl
theorem k93:Tryz.prog.cellsOf 82=1:=by kernel_rfl
theorem k26:Tryz.prog.cellsOf 26=7:=by kernel_rfl
theorem k87:Tryz.prog.cellsOf 60=2:=by kernel_rfl
theorem k90:Tryz.prog.cellsOf 63=8:=by kernel_rfl
theorem k92:Tryz.prog.cellsOf 66=5:=by kernel_rfl
theorem k95:Tryz.prog.cellsOf 84=6:=by kernel_rfl
theorem k97:Tryz.prog.cellsOf 86=2:=by kernel_rfl
theorem Rx {n:Nat} {cs:List Value} {x:DataW H×List MemPlace} (h:DataW.trod enc Tryz.prog W 0 (fun _=>true) true n 36 cs=some x):
  ∃v,∃l:List (List UInt8),LR (AI W) [v] cs∧iP v (l.map AV.str)∧l.length+1≤Rows.uptoBulk x.1∧(∀s∈l,s.length≤Rows.uptoBulk x.1)∧v.bX=true:=by
 obtain ⟨v,r,⟨rfl,q⟩|⟨ds,rest,f,q,rfl,hf⟩⟩:=Ky (E:=SE) (mk:=fun ys=>ys.headD .unk) Tryz.underlying36 k9 om (fun d ys hd=>by obtain ⟨s,rfl,_⟩:=hd;exact ⟨rfl,rfl,rfl⟩)
  (fun n' _ cs x h=>by
   obtain ⟨s,rfl,rfl,_⟩:=DataW.trod_string Tryz.underlying9 h
   exact ⟨[.str s.data.toList],LR.one (show VR _ (.str s.data.toList) (.string s) from VR.str s.data.toList),s.data.toList,rfl,by simp [Rows.uptoBulk]⟩) h
 ·refine ⟨_,[],r,.nil, ?_,fun s hs=>by simp at hs,rfl⟩
  rw [q];simp [Rows.uptoBulk]
 ·obtain ⟨l,h1,h2,h3⟩:=KY ds f hf
  refine ⟨_,l,r,by rw [h1];exact .sl _ _, ?_,fun s hs=> ?_,rfl⟩
  ·rw [q];simp only [Rows.uptoBulk];omega
  ·rw [q];simp only [Rows.uptoBulk];have:=h3 s hs;omega
theorem WL {α:Type} {l:List α} (h:l.length=2):∃a b,l=[a,b]:=by
 match l,h with
 |[a,b],_=>exact ⟨a,b,rfl⟩
theorem U9 {α:Type} {l:List α} (h:l.length=5):∃a b c d e,l=[a,b,c,d,e]:=by
 match l,h with
 |[a,b,c,d,e],_=>exact ⟨a,b,c,d,e,rfl⟩
theorem Yh {α:Type} {l:List α} (h:l.length=6):∃a b c d e f,l=[a,b,c,d,e,f]:=by
 match l,h with
 |[a,b,c,d,e,f],_=>exact ⟨a,b,c,d,e,f,rfl⟩
theorem WK {α:Type} {l:List α} (h:l.length=7):∃a b c d e f g,l=[a,b,c,d,e,f,g]:=by
 match l,h with
 |[a,b,c,d,e,f,g],_=>exact ⟨a,b,c,d,e,f,g,rfl⟩
theorem len8 {α:Type} {l:List α} (h:l.length=8):∃a b c d e f g i,l=[a,b,c,d,e,f,g,i]:=by
 match l,h with
 |[a,b,c,d,e,f,g,i],_=>exact ⟨a,b,c,d,e,f,g,i,rfl⟩
theorem fld {n t o k:Nat} {cs cs' :List Value} {y:DataW H×List MemPlace} (hk:Tryz.prog.cellsOf t=k) (q:DataW.trod enc Tryz.prog W 0 (fun _=>true) true n t ((cs.drop o).take (Tryz.prog.cellsOf t))=some y) (e:(cs.drop o).take k=cs'):
  DataW.trod enc Tryz.prog W 0 (fun _=>true) true n t cs' =some y:=by
 rw [hk,e] at q;exact q
theorem MC {n:Nat} {c:Value} {y:DataW H×List MemPlace} (h:DataW.trod enc Tryz.prog W 0 (fun _=>true) true n 9 [c]=some y):∃s:List UInt8,VR (AI W) (.str s) c∧Rows.uptoBulk y.1=s.length+1:=by
 obtain ⟨s,q,rfl,_⟩:=DataW.trod_string Tryz.underlying9 h
 cases q
 exact ⟨s.data.toList,VR.str s.data.toList,by simp [Rows.uptoBulk]⟩
theorem DN {n:Nat} {c:Value} {y:DataW H×List MemPlace} (h:DataW.trod enc Tryz.prog W 0 (fun _=>true) true n 3 [c]=some y):∃z:Int,VR (AI W) (.int .i64 z) c:=by
 obtain ⟨s,q,rfl,_⟩:=DataW.trod_int Tryz.underlying3 h
 cases q
 exact ⟨s,VR.int _ _⟩
theorem Pd {n:Nat} {c:Value} {y:DataW H×List MemPlace} (h:DataW.trod enc Tryz.prog W 0 (fun _=>true) true n 4 [c]=some y):∃b:Bool,VR (AI W) (.bool b) c:=by
 obtain ⟨s,q,rfl⟩:=DataW.trod_bool Tryz.underlying4 h
 cases q
 exact ⟨s,VR.bool _⟩
theorem G9 {p:Part} {b:Nat} (h1:p.nodes≤b) (h2:b≤1048576→(∀s∈strs p,s.length<10000000)∧∀q∈p.kids,wP q):Fit p b:=⟨h1,fun hb=> .mk (h2 hb).1 (h2 hb).2⟩
theorem UK {n:Nat} (Ke:∀n',n' <n→Rd enc W 63 n' (PE Part.exp 8)) (Kd:∀n',n' <n→Rd enc W 66 n' (PE Part.decl 5)) (Ki:∀n',n' <n→Rd enc W 84 n' (PE Part.imp 6)):Rd enc W 26 n (PE Part.desc 7):=by
 intro cs x h
 obtain ⟨xs,n',rfl,rfl,hl,hxl,hf⟩:=DataW.trod_struct Tryz.underlying26 h
 rw [k26] at hl
 obtain ⟨c0,c1,c2,c3,c4,c5,c6,rfl⟩:=WK hl
 obtain ⟨y0,y1,y2,y3,y4,y5,y6,rfl⟩:=WK hxl
 have h0:=fld (t:=9) (o:=0) (cs' :=[c0]) (y:=y0) k9 (by have q:=hf 0 _ rfl;exact q) rfl
 have h1:=fld (t:=22) (o:=1) (cs' :=[c1]) (y:=y1) k22 (by have q:=hf 1 _ rfl;exact q) rfl
 have h2:=fld (t:=23) (o:=2) (cs' :=[c2]) (y:=y2) k23 (by have q:=hf 2 _ rfl;exact q) rfl
 have h3:=fld (t:=22) (o:=3) (cs' :=[c3]) (y:=y3) k22 (by have q:=hf 3 _ rfl;exact q) rfl
 have h4:=fld (t:=4) (o:=4) (cs' :=[c4]) (y:=y4) k4 (by have q:=hf 4 _ rfl;exact q) rfl
 have h5:=fld (t:=24) (o:=5) (cs' :=[c5]) (y:=y5) k24 (by have q:=hf 5 _ rfl;exact q) rfl
 have h6:=fld (t:=22) (o:=6) (cs' :=[c6]) (y:=y6) k22 (by have q:=hf 6 _ rfl;exact q) rfl
 obtain ⟨s,g0,b0⟩:=MC h0
 obtain ⟨v1,l1,g1,r1,f1,i1⟩:=tL Tryz.underlying22 k90 om (fun m hm=>Ke m om) h1
 obtain ⟨v2,l2,g2,r2,f2,i2⟩:=tL Tryz.underlying23 k92 om (fun m hm=>Kd m om) h2
 obtain ⟨v3,l3,g3,r3,f3,i3⟩:=tL Tryz.underlying22 k90 om (fun m hm=>Ke m om) h3
 obtain ⟨b,g4⟩:=Pd h4
 obtain ⟨v5,l5,g5,r5,f5,i5⟩:=tL Tryz.underlying24 k95 om (fun m hm=>Ki m om) h5
 obtain ⟨v6,l6,g6,r6,f6,i6⟩:=tL Tryz.underlying22 k90 om (fun m hm=>Ke m om) h6
 refine ⟨[.str s,v1,v2,v3,.bool b,v5,v6],(((((((LR.nil _).cons g6.head).cons g5.head).cons g4).cons g3.head).cons g2.head).cons g1.head).cons g0,rfl,by simp only [List.all_cons,List.all_nil,i1,i2,i3,i5,i6];rfl,.mk s l1 l2 l3 b l5 l6,.desc r1 r2 r3 r5 r6, ?_⟩
 have hb:Rows.uptoBulk (DataW.agg (List.map (fun x:DataW H×List MemPlace=>x.1) [y0,y1,y2,y3,y4,y5,y6]))=(s.length+1)+(Rows.uptoBulk y1.1+(Rows.uptoBulk y2.1+(Rows.uptoBulk y3.1+(Rows.uptoBulk y4.1+(Rows.uptoBulk y5.1+Rows.uptoBulk y6.1)))))+1:=by
  simp only [List.map_cons,List.map_nil,Rows.uptoBulk,Rows.uptoBulkAll,b0,Nat.add_zero]
 rw [hb]
 refine G9 ?_ fun hs=>⟨fun z hz=> ?_,fun q hq=> ?_⟩
 ·rw [Part.qH]
  simp only [Part.own,Part.kids,List.map_append,List.sum_append]
  have:=f1.1;have:=f2.1;have:=f3.1;have:=f5.1;have:=f6.1
  omega
 ·simp only [strs,List.mem_singleton] at hz
  subst hz;omega
 ·simp only [Part.kids,List.mem_append] at hq
  rcases hq with (((hq|hq)|hq)|hq)|hq
  ·exact f1.2 om q hq
  ·exact f2.2 om q hq
  ·exact f3.2 om q hq
  ·exact f5.2 om q hq
  ·exact f6.2 om q hq
end
end Go.Proofs.YtfpohljcapcliaaGreatDoor
namespace Go.Proofs.YtfpohljcapcliaaGreatDoor
open Go Go.Am Go.Fs Go.Gn Go.Ly
section
variable {H:Type} {enc:TypeId×Value→H} {W:World}
theorem TW (d:DataW H):1≤Rows.uptoBulk d:=by
 cases d with
 |lit l=>cases l<;>simp [Rows.uptoBulk]
 |nil=>simp [Rows.uptoBulk]
 |ptr d=>simp [Rows.uptoBulk]
 |slice elems spare=>simp [Rows.uptoBulk]
 |agg parts=>simp [Rows.uptoBulk]
 |iface t d=>simp [Rows.uptoBulk]
 |map entries=>simp [Rows.uptoBulk]
 |held h=>simp [Rows.uptoBulk]
theorem Wr {n:Nat} (Ke:∀n',n' <n→Rd enc W 63 n' (PE Part.exp 8)) (Kd:∀n',n' <n→Rd enc W 26 n' (PE Part.desc 7)):Rd enc W 63 n (PE Part.exp 8):=by
 intro cs x h
 obtain ⟨xs,n',rfl,rfl,hl,hxl,hf⟩:=DataW.trod_struct Tryz.underlying63 h
 rw [k90] at hl
 obtain ⟨c0,c1,c2,c3,c4,c5,c6,c7,rfl⟩:=len8 hl
 obtain ⟨y0,y1,y2,y3,y4,y5,y6,rfl⟩:=WK hxl
 have h0:=fld (t:=3) (o:=0) (cs' :=[c0]) (y:=y0) k3 (by have q:=hf 0 _ rfl;exact q) rfl
 have h1:=fld (t:=3) (o:=1) (cs' :=[c1]) (y:=y1) k3 (by have q:=hf 1 _ rfl;exact q) rfl
 have h2:=fld (t:=3) (o:=2) (cs' :=[c2]) (y:=y2) k3 (by have q:=hf 2 _ rfl;exact q) rfl
 have h3:=fld (t:=60) (o:=3) (cs' :=[c3,c4]) (y:=y3) k87 (by have q:=hf 3 _ rfl;exact q) rfl
 have h4:=fld (t:=9) (o:=5) (cs' :=[c5]) (y:=y4) k9 (by have q:=hf 4 _ rfl;exact q) rfl
 have h5:=fld (t:=22) (o:=6) (cs' :=[c6]) (y:=y5) k22 (by have q:=hf 5 _ rfl;exact q) rfl
 have h6:=fld (t:=61) (o:=7) (cs' :=[c7]) (y:=y6) k88 (by have q:=hf 6 _ rfl;exact q) rfl
 obtain ⟨z0,g0⟩:=DN h0
 obtain ⟨z1,g1⟩:=DN h1
 obtain ⟨z2,g2⟩:=DN h2
 obtain ⟨ws,n'',rfl,_,hl3,hwl,hg⟩:=DataW.trod_struct Tryz.underlying60 h3
 obtain ⟨w0,w1,rfl⟩:=WL hwl
 have j0:=fld (t:=3) (o:=0) (cs' :=[c3]) (y:=w0) k3 (by have q:=hg 0 _ rfl;exact q) rfl
 have j1:=fld (t:=3) (o:=1) (cs' :=[c4]) (y:=w1) k3 (by have q:=hg 1 _ rfl;exact q) rfl
 obtain ⟨z3,g3⟩:=DN j0
 obtain ⟨z4,g4⟩:=DN j1
 obtain ⟨s,g5,b5⟩:=MC h4
 obtain ⟨v6,l6,g6,r6,f6,i6⟩:=tL Tryz.underlying22 k90 om (fun m hm=>Ke m om) h5
 obtain ⟨v7,l7,g7,r7,f7,i7⟩:=tL Tryz.underlying61 k26 om (fun m hm=>Kd m om) h6
 refine ⟨[.int .i64 z0,.int .i64 z1,.int .i64 z2,.int .i64 z3,.int .i64 z4,.str s,v6,v7],((((((((LR.nil _).cons g7.head).cons g6.head).cons g5).cons g4).cons g3).cons g2).cons g1).cons g0,rfl,by simp only [List.all_cons,List.all_nil,i6,i7];rfl,.mk z0 z1 z2 z3 z4 s l6 l7,.exp r6 r7, ?_⟩
 have hb:s.length+1+(Rows.uptoBulk y5.1+Rows.uptoBulk y6.1)+1≤Rows.uptoBulk (DataW.agg (List.map (fun x:DataW H×List MemPlace=>x.1) [y0,y1,y2,y3,y4,y5,y6])):=by
  simp only [List.map_cons,List.map_nil,Rows.uptoBulk,Rows.uptoBulkAll,b5,Nat.add_zero]
  omega
 show Fit _ (Rows.uptoBulk (DataW.agg (List.map (fun x:DataW H×List MemPlace=>x.1) [y0,y1,y2,y3,y4,y5,y6])))
 generalize Rows.uptoBulk (DataW.agg (List.map (fun x:DataW H×List MemPlace=>x.1) [y0,y1,y2,y3,y4,y5,y6]))=B at hb⊢
 refine G9 ?_ fun hs=>⟨fun z hz=> ?_,fun q hq=> ?_⟩
 ·rw [Part.qH]
  simp only [Part.own,Part.kids,List.map_append,List.sum_append]
  have:=f6.1;have:=f7.1
  omega
 ·simp only [strs,List.mem_singleton] at hz
  subst hz;omega
 ·simp only [Part.kids,List.mem_append] at hq
  rcases hq with hq|hq
  ·exact f6.2 om q hq
  ·exact f7.2 om q hq
theorem UL {n:Nat} (Ke:∀n',n' <n→Rd enc W 63 n' (PE Part.exp 8)) (Kd:∀n',n' <n→Rd enc W 26 n' (PE Part.desc 7)):Rd enc W 66 n (PE Part.decl 5):=by
 intro cs x h
 obtain ⟨xs,n',rfl,rfl,hl,hxl,hf⟩:=DataW.trod_struct Tryz.underlying66 h
 rw [k92] at hl
 obtain ⟨c0,c1,c2,c3,c4,rfl⟩:=U9 hl
 obtain ⟨y0,y1,y2,y3,y4,rfl⟩:=U9 hxl
 have h0:=fld (t:=3) (o:=0) (cs' :=[c0]) (y:=y0) k3 (by have q:=hf 0 _ rfl;exact q) rfl
 have h1:=fld (t:=36) (o:=1) (cs' :=[c1]) (y:=y1) k52 (by have q:=hf 1 _ rfl;exact q) rfl
 have h2:=fld (t:=22) (o:=2) (cs' :=[c2]) (y:=y2) k22 (by have q:=hf 2 _ rfl;exact q) rfl
 have h3:=fld (t:=22) (o:=3) (cs' :=[c3]) (y:=y3) k22 (by have q:=hf 3 _ rfl;exact q) rfl
 have h4:=fld (t:=61) (o:=4) (cs' :=[c4]) (y:=y4) k88 (by have q:=hf 4 _ rfl;exact q) rfl
 obtain ⟨z0,g0⟩:=DN h0
 obtain ⟨v1,l1,g1,r1,b1,b1',i1⟩:=Rx h1
 obtain ⟨v2,l2,g2,r2,f2,i2⟩:=tL Tryz.underlying22 k90 om (fun m hm=>Ke m om) h2
 obtain ⟨v3,l3,g3,r3,f3,i3⟩:=tL Tryz.underlying22 k90 om (fun m hm=>Ke m om) h3
 obtain ⟨v4,l4,g4,r4,f4,i4⟩:=tL Tryz.underlying61 k26 om (fun m hm=>Kd m om) h4
 refine ⟨[.int .i64 z0,v1,v2,v3,v4],(((((LR.nil _).cons g4.head).cons g3.head).cons g2.head).cons g1.head).cons g0,rfl,by simp only [List.all_cons,List.all_nil,i1,i2,i3,i4];rfl,.mk z0 l1 l2 l3 l4,.decl r1 r2 r3 r4, ?_⟩
 have hb:1+Rows.uptoBulk y1.1+Rows.uptoBulk y2.1+Rows.uptoBulk y3.1+Rows.uptoBulk y4.1+1≤Rows.uptoBulk (DataW.agg (List.map (fun x:DataW H×List MemPlace=>x.1) [y0,y1,y2,y3,y4])):=by
  simp only [List.map_cons,List.map_nil,Rows.uptoBulk,Rows.uptoBulkAll,Nat.add_zero]
  have:=TW y0.1
  omega
 show Fit _ (Rows.uptoBulk (DataW.agg (List.map (fun x:DataW H×List MemPlace=>x.1) [y0,y1,y2,y3,y4])))
 generalize Rows.uptoBulk (DataW.agg (List.map (fun x:DataW H×List MemPlace=>x.1) [y0,y1,y2,y3,y4]))=B at hb⊢
 refine G9 ?_ fun hs=>⟨fun z hz=> ?_,fun q hq=> ?_⟩
 ·rw [Part.qH]
  simp only [Part.own,Part.kids,List.map_append,List.sum_append]
  have:=f2.1;have:=f3.1;have:=f4.1
  omega
 ·have:=b1' z hz
  omega
 ·simp only [Part.kids,List.mem_append] at hq
  rcases hq with (hq|hq)|hq
  ·exact f2.2 om q hq
  ·exact f3.2 om q hq
  ·exact f4.2 om q hq
theorem Wq {n:Nat} (Ke:∀n',n' <n→Rd enc W 63 n' (PE Part.exp 8)) (Kc:∀n',n' <n→Rd enc W 86 n' (PE Part.case 2)) (Ki:∀n',n' <n→Rd enc W 84 n' (PE Part.imp 6)):Rd enc W 84 n (PE Part.imp 6):=by
 intro cs x h
 obtain ⟨xs,n',rfl,rfl,hl,hxl,hf⟩:=DataW.trod_struct Tryz.underlying84 h
 rw [k95] at hl
 obtain ⟨c0,c1,c2,c3,c4,c5,rfl⟩:=Yh hl
 obtain ⟨y0,y1,y2,y3,y4,y5,rfl⟩:=Yh hxl
 have h0:=fld (t:=3) (o:=0) (cs' :=[c0]) (y:=y0) k3 (by have q:=hf 0 _ rfl;exact q) rfl
 have h1:=fld (t:=9) (o:=1) (cs' :=[c1]) (y:=y1) k9 (by have q:=hf 1 _ rfl;exact q) rfl
 have h2:=fld (t:=22) (o:=2) (cs' :=[c2]) (y:=y2) k22 (by have q:=hf 2 _ rfl;exact q) rfl
 have h3:=fld (t:=82) (o:=3) (cs' :=[c3]) (y:=y3) k93 (by have q:=hf 3 _ rfl;exact q) rfl
 have h4:=fld (t:=4) (o:=4) (cs' :=[c4]) (y:=y4) k4 (by have q:=hf 4 _ rfl;exact q) rfl
 have h5:=fld (t:=24) (o:=5) (cs' :=[c5]) (y:=y5) k24 (by have q:=hf 5 _ rfl;exact q) rfl
 obtain ⟨z0,g0⟩:=DN h0
 obtain ⟨s,g1,b1⟩:=MC h1
 obtain ⟨v2,l2,g2,r2,f2,i2⟩:=tL Tryz.underlying22 k90 om (fun m hm=>Ke m om) h2
 obtain ⟨v3,l3,g3,r3,f3,i3⟩:=tL Tryz.underlying82 k97 om (fun m hm=>Kc m om) h3
 obtain ⟨b,g4⟩:=Pd h4
 obtain ⟨v5,l5,g5,r5,f5,i5⟩:=tL Tryz.underlying24 k95 om (fun m hm=>Ki m om) h5
 refine ⟨[.int .i64 z0,.str s,v2,v3,.bool b,v5],((((((LR.nil _).cons g5.head).cons g4).cons g3.head).cons g2.head).cons g1).cons g0,rfl,by simp only [List.all_cons,List.all_nil,i2,i3,i5];rfl,.mk z0 s l2 l3 b l5,.imp r2 r3 r5, ?_⟩
 have hb:s.length+1+Rows.uptoBulk y2.1+Rows.uptoBulk y3.1+Rows.uptoBulk y5.1+1≤Rows.uptoBulk (DataW.agg (List.map (fun x:DataW H×List MemPlace=>x.1) [y0,y1,y2,y3,y4,y5])):=by
  simp only [List.map_cons,List.map_nil,Rows.uptoBulk,Rows.uptoBulkAll,b1,Nat.add_zero]
  omega
 show Fit _ (Rows.uptoBulk (DataW.agg (List.map (fun x:DataW H×List MemPlace=>x.1) [y0,y1,y2,y3,y4,y5])))
 generalize Rows.uptoBulk (DataW.agg (List.map (fun x:DataW H×List MemPlace=>x.1) [y0,y1,y2,y3,y4,y5]))=B at hb⊢
 refine G9 ?_ fun hs=>⟨fun z hz=> ?_,fun q hq=> ?_⟩
 ·rw [Part.qH]
  simp only [Part.own,Part.kids,List.map_append,List.sum_append]
  have:=f2.1;have:=f3.1;have:=f5.1
  omega
 ·simp only [strs,List.mem_singleton] at hz
  subst hz;omega
 ·simp only [Part.kids,List.mem_append] at hq
  rcases hq with (hq|hq)|hq
  ·exact f2.2 om q hq
  ·exact f3.2 om q hq
  ·exact f5.2 om q hq
theorem UM {n:Nat} (Ke:∀n',n' <n→Rd enc W 63 n' (PE Part.exp 8)) (Ki:∀n',n' <n→Rd enc W 84 n' (PE Part.imp 6)):Rd enc W 86 n (PE Part.case 2):=by
 intro cs x h
 obtain ⟨xs,n',rfl,rfl,hl,hxl,hf⟩:=DataW.trod_struct Tryz.underlying86 h
 rw [k97] at hl
 obtain ⟨c0,c1,rfl⟩:=WL hl
 obtain ⟨y0,y1,rfl⟩:=WL hxl
 have h0:=fld (t:=22) (o:=0) (cs' :=[c0]) (y:=y0) k22 (by have q:=hf 0 _ rfl;exact q) rfl
 have h1:=fld (t:=24) (o:=1) (cs' :=[c1]) (y:=y1) k24 (by have q:=hf 1 _ rfl;exact q) rfl
 obtain ⟨v2,l2,g2,r2,f2,i2⟩:=tL Tryz.underlying22 k90 om (fun m hm=>Ke m om) h0
 obtain ⟨v5,l5,g5,r5,f5,i5⟩:=tL Tryz.underlying24 k95 om (fun m hm=>Ki m om) h1
 refine ⟨[v2,v5],((LR.nil _).cons g5.head).cons g2.head,rfl,by simp only [List.all_cons,List.all_nil,i2,i5];rfl,.mk l2 l5,.case r2 r5, ?_⟩
 have hb:Rows.uptoBulk y0.1+Rows.uptoBulk y1.1+1≤Rows.uptoBulk (DataW.agg (List.map (fun x:DataW H×List MemPlace=>x.1) [y0,y1])):=by
  simp only [List.map_cons,List.map_nil,Rows.uptoBulk,Rows.uptoBulkAll,Nat.add_zero]
  omega
 show Fit _ (Rows.uptoBulk (DataW.agg (List.map (fun x:DataW H×List MemPlace=>x.1) [y0,y1])))
 generalize Rows.uptoBulk (DataW.agg (List.map (fun x:DataW H×List MemPlace=>x.1) [y0,y1]))=B at hb⊢
 refine G9 ?_ fun hs=>⟨fun z hz=> ?_,fun q hq=> ?_⟩
 ·rw [Part.qH]
  simp only [Part.own,Part.kids,List.map_append,List.sum_append]
  have:=f2.1;have:=f5.1
  omega
 ·simp [strs] at hz
 ·simp only [Part.kids,List.mem_append] at hq
  rcases hq with hq|hq
  ·exact f2.2 om q hq
  ·exact f5.2 om q hq
theorem Ry:∀n,Rd enc W 26 n (PE Part.desc 7)∧Rd enc W 63 n (PE Part.exp 8)∧Rd enc W 66 n (PE Part.decl 5)∧Rd enc W 84 n (PE Part.imp 6)∧Rd enc W 86 n (PE Part.case 2):=by
 intro n
 induction n using Nat.strongRecOn with
 |ind n ih=>
  have a1:=fun m hm=>(ih m hm).1
  have a2:=fun m hm=>(ih m hm).2.1
  have a3:=fun m hm=>(ih m hm).2.2.1
  have a4:=fun m hm=>(ih m hm).2.2.2.1
  have a5:=fun m hm=>(ih m hm).2.2.2.2
  exact ⟨UK a2 a3 a4,Wr a2 a1,UL a2 a1,Wq a2 a5 a4,UM a2 a4⟩
end
end Go.Proofs.YtfpohljcapcliaaGreatDoor
namespace Go.Proofs.YtfpohljcapcliaaGreatDoor
open Go Go.Am Go.Fs Go.Gn Go.Ly Go.RowKit
def yI (args:List AV):Option AV:=match args with
 |[.str s,.str t]=>if s.length<10000000 then some (.int .i64 (Lib.index s t)) else none
 |_=>none
theorem JT {P:Program} {genv:Nat→Option (List AV)} {B:Nat} {w₀:World} {f:FuncId} {jY :Array Value} {w:World} {h:aD} {m:Mem} {z:Int} (W:WR P genv B w₀ h m w) (C:Calls P f jY w fun e w' =>e= .returned (.int .i64 z)∧w' =w) (cs:List Frame):
  Go.Am.Leaves P genv B w₀ f .normal cs h m (lone (Frame.enter P f jY .normal) cs w) (.ret (.int .i64 z)) .plain h:=by
 obtain ⟨e,w',fr,⟨rfl,rfl⟩,q1,q2,zT,hd,hk,fn,hf,hr⟩:=C cs
 rw [q2] at hf
 exact ⟨m,w',cs,fr,q1,q2,hk,hd,⟨fn,hf⟩,⟨zT,fn,_,hf,hr,.int _ _⟩,.plain rfl,W,⟨.refl m,Nat.le_refl _,fun _ _=>rfl⟩⟩
theorem SB {genv:Nat→Option (List AV)} {B:Nat} {w₀:World} (hB:1<B) {n:Int} (hm:w₀.cell? ⟨1,0,none⟩=some (.int .i64 n)) {orc:Orc} (hO:EO Tryz.prog genv B w₀ orc):EO Tryz.prog genv B w₀ (nH 172 yI orc):=by
 intro g u e args x ex h m w cs jY ha W
 unfold nH at e
 split at e
 ·rename_i hb
  cases e
  rw [Nat.eq_of_beq_eq_true hb]
  unfold yI at ex
  split at ex
  ·rename_i s t
   split at ex
   ·rename_i hs
    cases ex
    obtain ⟨v1,vs1,e1,r1,ha1⟩:=ha.cons_inv
    obtain ⟨v2,vs2,e2,r2,ha2⟩:=ha1.cons_inv
    subst e2
    have e3:=ha2.AU
    subst e3
    cases r1
    cases r2
    have:jY = #[.string ⟨s.toArray⟩,.string ⟨t.toArray⟩]:=Array.ext' (by simpa using e1)
    subst this
    have hs' :(⟨s.toArray⟩:ByteArray).size<4294967281:=by simp [ByteArray.size];omega
    have hc:w.cell? ⟨1,0,none⟩=some (.int .i64 n):=(uL (W.below.block 1 hB)).trans hm
    refine ⟨Tryz.call172 _ _,JT W ?_ cs⟩
    exact Tryz.strings_Index ⟨s.toArray⟩ ⟨t.toArray⟩ n w hs' hc
   ·cases ex
  ·cases ex
 ·exact hO g u e args x ex h m w cs jY ha W
theorem WR.Wn {P:Program} {genv:Nat→Option (List AV)} {W:World} (hG:∀g cs,genv g=some cs→cs.all AV.ground=true)
  (hW:∀g cs,genv g=some cs→∀(i:Nat) v,(cs.map Dc)[i]? =some v→W.cell? ⟨g,i,none⟩=some v):WR P genv W.heap.size W aD.empty (AI W) W:=by
 refine ⟨.refl _ _,Nat.le_refl _,fun i j b e=> ?_,fun i b e=> ?_,fun i b e=> ?_,fun b o v e=>e,fun i b o e=> ?_,fun b t sz e=> ?_,fun g cs e=> ?_⟩
 ·cases e
 ·cases e
 ·cases e
 ·cases e
 ·cases e
 ·refine ⟨cs.map Dc,J3 (hG g cs e),fun i v hv=> ?_⟩
  show W.cell? ⟨g,0+i,none⟩=_
  rw [Nat.zero_add]
  exact hW g cs e i v hv
theorem CD {P:Program} {genv:Nat→Option (List AV)} {fns:Go.Am.F} (hF:uY P genv fns) {orc:Orc} {W:World} (hO:EO P genv W.heap.size W orc) (hG:∀g cs,genv g=some cs→cs.all AV.ground=true)
  {n:Nat} {f:FuncId} {args:List AV} {v:AV} {h' :aD} (he:eval fns orc n (.call f args .plain aD.empty)= .ok (.call (.ret v) .plain h')) (hg:v.ground=true)
  {jY :Array Value} (hA:LR (AI W) args jY.toList) (hW:∀g cs,genv g=some cs→∀(i:Nat) v,(cs.map Dc)[i]? =some v→W.cell? ⟨g,i,none⟩=some v):
  Calls P f jY W fun e W' =>e= .returned (Dc v)∧Below W.heap.size W W' :=by
 intro ks
 obtain ⟨x,rc',h1,hx,hcf,m',w',cs',fr,q1,q2,q3,q4,q5,q6,q7,q8,q9⟩:=CG (B:=W.heap.size) (w₀:=W) hF hO n _ _ he jY (AI W) W .normal ks ks hA (WR.Wn hG hW) (.plain rfl)
 cases hx
 obtain ⟨zT,fn,v',hfn,BM,hv⟩:=q6
 cases q7 with
 |plain _=>
  refine ⟨.returned v',w',fr,⟨by rw [G6 hg hv],q8.below⟩,q1,q2,zT,q4,q3,fn, ?_,BM⟩
  rw [q2]
  exact hfn
theorem Qq (s t:List UInt8):Lib.index s t≤(s.length:Int):=by
 induction s with
 |nil=>unfold Lib.index;split<;>simp
 |cons b l ih=>
  unfold Lib.index
  split
  ·omega
  ·split
   ·simp only [List.length_cons];omega
   ·simp only [List.length_cons];omega
theorem Lq {orc:Orc} (h:orc 172=some yI):Go.Ly.HD orc:=
 ⟨yI,h,fun s t hs _=>⟨Lib.index s t,by unfold yI;simp only;rw [if_pos hs],Qq s t⟩⟩
end Go.Proofs.YtfpohljcapcliaaGreatDoor
end
