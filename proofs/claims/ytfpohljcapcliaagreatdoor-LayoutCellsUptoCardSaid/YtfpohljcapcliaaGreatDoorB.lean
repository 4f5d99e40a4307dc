/- Parts of a proof. -/
import Derived.Test.YtfpohljcapcliaaGreatDoorA
import Derived.Defers
import Derived.Orders
import Derived.Lib.LaidTab
set_option linter.all false
noncomputable section
namespace Go.Am
open Go.RowKit
variable {P:Program} {genv:Nat→Option (List AV)} {B:Nat} {w₀:World} {h:aD} {m:Mem} {w:World}
theorem eR (W:WR P genv B w₀ h m w) {ts:fN} {a:Act} (T:TR m ts a.tmps) (x:Operand):VR m (ev ts (opd genv x)) (a.eval x):=by
 cases x with
 |tmp t=>exact T t
 |const v=>
  show VR m ((Di Gj v).getD .unk) v
  cases hv:Di Gj v with
  |none=>exact .unk _
  |some u=>exact Cp _ _ _ hv
 |global g=>
  show VR m (ev ts (match genv g with|some cs=> .c (.ep cs 0)|none=> .c .unk)) (.pointer (some ⟨g,0,none⟩))
  cases hg:genv g with
  |none=>exact .unk _
  |some cs=>
   obtain ⟨vs,h1,h2⟩:=W.Eu g cs hg
   exact .ep cs vs g 0 0 h1.1 h1.2 h2
 |func f=>exact .fn f [] [] [] [] rfl (fun i c v hc=>by simp at hc) rfl (fun i c v hc=>by simp at hc)
theorem yS (W:WR P genv B w₀ h m w) {ts:fN} {a:Act} (T:TR m ts a.tmps) (xs:List Operand):LR m (evL ts (xs.map (opd genv))) (xs.map a.eval):=by
 induction xs with
 |nil=>exact LR.nil m
 |cons x xs ih=>exact LR.cons (eR W T x) ih
theorem EV (W:WR P genv B w₀ h m w) {ts:fN} {a:Act} (T:TR m ts a.tmps) (x:Option Operand):OVR m (evO ts (x.map (opd genv))) (x.map a.eval):=by
 cases x with
 |none=>exact .none
 |some x=>exact .some (eR W T x)
inductive NX (P:Program) (genv:Nat→Option (List AV)) (B:Nat) (w₀:World) (h:aD) (m:Mem) (w:World):jF→Result Next→Prop
 |val {v:AV} {h' :aD} {v' :Value} {m' :Mem} {w' :World}:Ext h m h' m' →WR P genv B w₀ h' m' w' →VR m' v v' →NX P genv B w₀ h m w (.val v h') (.ok (.value v') w')
 |skip {h' :aD} {m' :Mem} {w' :World}:Ext h m h' m' →WR P genv B w₀ h' m' w' →NX P genv B w₀ h m w (.skip h') (.ok .skip w')
 |enter {f:FuncId} {args:List AV} {jY :Array Value}:LR m args jY.toList→NX P genv B w₀ h m w (.enter f args) ((callFunc f jY).run P w)
 |round {l lb:Nat} {args:List AV} {jY :Array Value}:m.ρ l=some lb→LR m args jY.toList→NX P genv B w₀ h m w (.round l args) ((Instr.yield lb jY).run P w)
 |defer {d:vM} {d' :Deferred}:DR m d d' →NX P genv B w₀ h m w (.defer d) (.ok (.defer d') w)
 |recover:NX P genv B w₀ h m w .recover (.ok .recover w)
 |panic {v:AV} {v' :Value}:VR m v v' →NX P genv B w₀ h m w (.panic v) (.halt (.panic v') w)
theorem NX.same (W:WR P genv B w₀ h m w) {v:AV} {v' :Value} (hv:VR m v v'):NX P genv B w₀ h m w (.val v h) (.ok (.value v') w):= .val (.refl h m) W hv
theorem mM {ts:fN} {s:String} {x:Option AOp} {nx:jF} (e:opA ts h (rL s x)= .ok nx):∃o,x=some o∧opA ts h o= .ok nx:=by
 cases x with
 |none=>cases e
 |some o=>exact ⟨o,rfl,e⟩
theorem oW (W:WR P genv B w₀ h m w) {s:Sem Value} {v:AV} {v' :Value} (h1:s.run P w= .ok v' w) (h2:VR m v v'):NX P genv B w₀ h m w (.val v h) ((do pure (.value (←s)):Sem Next).run P w):=by
 simp only [Sem.run_bind,h1,Result.andThen_ok,Sem.run_pure];exact .same W h2
theorem Cq {s:Sem Value} {v:AV} {h' :aD} (e:∃v' m' w',s.run P w= .ok v' w' ∧VR m' v v' ∧WR P genv B w₀ h' m' w' ∧Ext h m h' m'):NX P genv B w₀ h m w (.val v h') ((do pure (.value (←s)):Sem Next).run P w):=by
 obtain ⟨v',m',w',h1,h2,h3,h4⟩:=e
 simp only [Sem.run_bind,h1,Result.andThen_ok,Sem.run_pure];exact .val h4 h3 h2
theorem Ch {x:R AV} {nx:jF} (e:vl h x= .ok nx):∃v,x= .ok v∧nx= .val v h:=by
 obtain ⟨v,hv,e⟩:=R.aM e
 cases e;exact ⟨v,hv,rfl⟩
theorem R2 (W:WR P genv B w₀ h m w) {ts:fN} {nx:jF} {t:TypeId} (e:opA ts h (lJ P genv (.alloc t))= .ok nx):NX P genv B w₀ h m w nx ((do pure (.value (←Instr.alloc t true (.tuple #[]))):Sem Next).run P w):=by
 obtain ⟨o,ho,e⟩:=mM e
 obtain ⟨z,hz,rfl⟩:=Option.map_eq_some_iff.1 ho
 cases e
 exact Cq (Mh W hz)
theorem Wv (W:WR P genv B w₀ h m w) {ts:fN} {a:Act} (T:TR m ts a.tmps) {nx:jF} {t:TypeId} {x:Operand} (e:opA ts h (lJ P genv (.box t x))= .ok nx):NX P genv B w₀ h m w nx ((do pure (.value (←Instr.box t (a.eval x))):Sem Next).run P w):=by
 have hx:=eR W T x
 simp only [lJ,opA,kE,rH] at e
 split at e
 ·rename_i hk
  cases e
  exact Cq (QZ W hx (fun hh=>by rw [hh] at hk;cases hk))
 ·cases e
theorem UU (W:WR P genv B w₀ h m w) {ts:fN} {a:Act} (T:TR m ts a.tmps) {nx:jF} {t:TypeId} {x:Operand} (e:opA ts h (lJ P genv (.load t x))= .ok nx):NX P genv B w₀ h m w nx ((do pure (.value (←Instr.loadAt t (a.eval x))):Sem Next).run P w):=by
 obtain ⟨o,ho,e⟩:=mM e
 obtain ⟨n,hn,rfl⟩:=Option.map_eq_some_iff.1 ho
 obtain ⟨v,hv,rfl⟩:=Ch e
 obtain ⟨v',h1,h2⟩:=Li W hn (eR W T x) hv
 exact oW W h1 h2
theorem RM (W:WR P genv B w₀ h m w) {ts:fN} {a:Act} (T:TR m ts a.tmps) {nx:jF} {t:TypeId} {x y:Operand} (e:opA ts h (lJ P genv (.store t x y))= .ok nx):NX P genv B w₀ h m w nx ((do Instr.storeAt t (a.eval x) (a.eval y);pure .skip:Sem Next).run P w):=by
 obtain ⟨o,ho,e⟩:=mM e
 obtain ⟨n,hn,rfl⟩:=Option.map_eq_some_iff.1 ho
 obtain ⟨h',hv,e⟩:=R.aM e
 cases e
 obtain ⟨w',h1,h2,h3⟩:=IM W hn (eR W T x) (eR W T y) hv
 simp only [Sem.run_bind,h1,Result.andThen_ok,Sem.run_pure]
 exact .skip (.heap m h3) h2
theorem R1 (W:WR P genv B w₀ h m w) {ts:fN} {a:Act} (T:TR m ts a.tmps) {nx:jF} {t:TypeId} {parts:Array (Nat×Operand)} (e:opA ts h (lJ P genv (.build t parts))= .ok nx):
  NX P genv B w₀ h m w nx ((do pure (.value (←Instr.build t (parts.map fun (i,x)=>(i,a.eval x)))):Sem Next).run P w):=by
 obtain ⟨o,ho,e⟩:=mM e
 split at ho
 ·rename_i fs z hu hz
  split at ho
  ·rename_i zV
   obtain ⟨ps,hps,rfl⟩:=Option.map_eq_some_iff.1 ho
   obtain ⟨r,hr,e⟩:=R.aM e
   cases e
   obtain ⟨v',h1,h2⟩:=DW (w:=w) (ts:=ts) (ρ:=a.eval) hu hz (fun f hf=>Option.isSome_iff_exists.1 (List.all_eq_true.1 zV f (by simpa using hf))) hps (fun x=>eR W T x) hr
   exact oW W h1 h2
  ·cases ho
 ·rename_i et z hu hz
  obtain ⟨n,hn,rfl⟩:=Option.map_eq_some_iff.1 ho
  obtain ⟨r,hr,e⟩:=R.aM e
  cases e
  obtain ⟨v',h1,h2⟩:=ED (w:=w) (ts:=ts) (ρ:=a.eval) hu hz hn (fun x=>eR W T x) hr
  exact oW W h1 h2
 ·cases ho
theorem PT (W:WR P genv B w₀ h m w) {ts:fN} {a:Act} (T:TR m ts a.tmps) {nx:jF} {t:TypeId} {len:Nat} {parts:Array (Nat×Operand)} (e:opA ts h (lJ P genv (.buildSlice t len parts))= .ok nx):
  NX P genv B w₀ h m w nx ((do pure (.value (←Instr.buildSlice t len (parts.map fun (i,x)=>(i,a.eval x)))):Sem Next).run P w):=by
 obtain ⟨o,ho,e⟩:=mM e
 split at ho
 ·rename_i et hu
  split at ho
  ·rename_i n z hn hz
   split at ho
   ·rename_i hc
    simp only [Bool.and_eq_true] at hc
    obtain ⟨⟨⟨c1,c2⟩,c3⟩,c4⟩:=hc
    have hlen:parts.size=len:=Nat.eq_of_beq_eq_true c4
    subst hlen
    cases ho
    obtain ⟨l,hl,e⟩:=R.aM e
    cases e
    exact Cq (JU W (ρ:=a.eval) (fun x=>eR W T x) hu hn hz (Nat.le_of_ble_eq_true c1) (Nat.le_of_ble_eq_true c2) (fun j q hq=>by
     have hm:(q,j)∈parts.toList.zipIdx:=by
      rw [List.mem_zipIdx_iff_getElem?];exact hq
     exact Nat.eq_of_beq_eq_true (List.all_eq_true.1 c3 _ hm)) hl)
   ·cases ho
  ·cases ho
 ·cases ho
theorem PQ (W:WR P genv B w₀ h m w) {ts:fN} {a:Act} (T:TR m ts a.tmps) {nx:jF} {o:Oper} {x:Operand} (ho:o.op= .nilCheck x) (e:opA ts h (lJ P genv (.nilCheck x))= .ok nx):NX P genv B w₀ h m w nx ((execOp a.eval o).run P w):=by
 have hx:=eR W T x
 simp only [lJ,opA,qS] at e
 generalize ev ts (opd genv x)=y at hx e
 unfold execOp
 rw [ho]
 simp only
 generalize a.eval x=u at hx⊢
 cases hx with
 |ptr id off b hb=>cases e;exact .same W (.ptr _ _ _ hb)
 |ep cs vs b base off h1 h2 h3=>cases e;exact .same W (.ep _ _ _ _ _ h1 h2 h3)
 |fn f f1 c1 fs cs h1 h2 h3 h4=>cases e;exact .same W (.fn _ _ _ _ _ h1 h2 h3 h4)
 |yield l b hb=>cases e;exact .same W (.yield _ _ hb)
 |_=>cases e
theorem GV {op:BinOp} {k:IntKind} {x y:Int} {v:AV} (e:intArith op k x y= .ok v) (hop:op≠ .shl∧op≠ .shr) (t:TypeId):
  ∃v',(binOp op t (.int k x) (.int k y)).run P w= .ok v' w∧VR m v v' :=by
 cases op with
 |shl=>exact absurd rfl hop.1
 |shr=>exact absurd rfl hop.2
 |add=>cases e;exact ⟨.int k (wr k (x+y)),by simp [binOp,Op.intArith,lZ],.int _ _⟩
 |sub=>cases e;exact ⟨.int k (wr k (x -y)),by simp [binOp,Op.intArith,lZ],.int _ _⟩
 |mul=>cases e;exact ⟨.int k (wr k (x*y)),by simp [binOp,Op.intArith,lZ],.int _ _⟩
 |quo=>
  simp only [intArith] at e
  split at e
  ·cases e
  ·rename_i h0
   cases e
   have hy:¬y=0:=by rw [iQ] at h0;simpa using h0
   exact ⟨.int k (wr k (x.tdiv y)),by simp [binOp,Op.intDiv,hy,lZ],.int _ _⟩
 |rem=>
  simp only [intArith] at e
  split at e
  ·cases e
  ·rename_i h0
   cases e
   have hy:¬y=0:=by rw [iQ] at h0;simpa using h0
   exact ⟨_,by simp [binOp,Op.intDiv,hy],.int _ _⟩
 |and=>cases e;exact ⟨_,by simp [binOp,Op.intBits],.int _ _⟩
 |or=>cases e;exact ⟨_,by simp [binOp,Op.intBits],.int _ _⟩
 |xor=>cases e;exact ⟨_,by simp [binOp,Op.intBits],.int _ _⟩
 |andNot=>cases e;exact ⟨_,by simp [binOp,Op.intBits],.int _ _⟩
 |eql=>cases e;exact ⟨.bool (x==y),by simp [binOp,Op.intCmp],by rw [iQ,Eo];exact .bool _⟩
 |neq=>cases e;exact ⟨.bool (x !=y),by simp [binOp,Op.intCmp],by rw [iQ,iN,bne,Eo];exact .bool _⟩
 |lss=>cases e;exact ⟨.bool (x<y),by simp [binOp,Op.intCmp],by rw [kH];exact .bool _⟩
 |leq=>cases e;exact ⟨.bool (x≤y),by simp [binOp,Op.intCmp],by rw [jE];exact .bool _⟩
 |gtr=>cases e;exact ⟨.bool (x>y),by simp [binOp,Op.intCmp],by rw [kH];exact .bool _⟩
 |geq=>cases e;exact ⟨.bool (x≥y),by simp [binOp,Op.intCmp],by rw [jE];exact .bool _⟩
theorem Dt (a b:List UInt8):(!yL b a)=(yL a b||(a==b)):=by
 induction a generalizing b with
 |nil=>cases b<;>simp [yL]
 |cons x r ih=>
  cases b with
  |nil=>simp [yL]
  |cons y s=>
   have:=ih s
   simp only [AL,Op.bytesLess] at this⊢
   by_cases h1:x<y
   ·have h2:¬y<x:=fun h=>by have:=UInt8.lt_iff_toNat_lt.1 h1;have:=UInt8.lt_iff_toNat_lt.1 h;omega
    have h3:¬y=x:=fun h=>by subst h;exact h2 h1
    simp [h1,h2,h3]
   ·by_cases h2:y<x
    ·have h3:¬x=y:=fun h=>by subst h;exact h1 h2
     simp [h1,h2,h3]
    ·have a1:¬x.toNat<y.toNat:=fun h=>h1 (UInt8.lt_iff_toNat_lt.2 h)
     have a2:¬y.toNat<x.toNat:=fun h=>h2 (UInt8.lt_iff_toNat_lt.2 h)
     have h3:x=y:=UInt8.toNat_inj.1 om
     subst h3
     simp [h1];simpa using this
theorem Gp {op:BinOp} {x y:List UInt8} {v:AV} (e:Gq op x y= .ok v) (t:TypeId):
  ∃v',(binOp op t (.string ⟨x.toArray⟩) (.string ⟨y.toArray⟩)).run P w= .ok v' w∧VR m v v' :=by
 have hx:(⟨x.toArray⟩:ByteArray).size=x.length:=by simp [ByteArray.size]
 have hy:(⟨y.toArray⟩:ByteArray).size=y.length:=by simp [ByteArray.size]
 cases op with
 |add=>
  simp only [Gq] at e
  split at e
  ·rename_i hc
   cases e
   have hle:x.length+y.length≤9223372036854775807:=Nat.le_of_ble_eq_true hc
   have WZ:IntKind.max .i64=9223372036854775807:=by decide
   have hn:¬(((x.length+y.length:Nat):Int)>IntKind.max .i64):=by rw [WZ];omega
   refine ⟨.string (⟨x.toArray⟩++⟨y.toArray⟩),by simp only [binOp,Op.stringOp,hx,hy,if_neg hn];rfl, ?_⟩
   have:(⟨x.toArray⟩++⟨y.toArray⟩:ByteArray)=⟨(x++y).toArray⟩:=by
    apply ByteArray.ext;rw [ByteArray.data_append];simp
   rw [this];exact .str _
  ·cases e
 |eql=>cases e;exact ⟨.bool (x==y),by simp [binOp,Op.stringOp],by rw [jV];exact .bool _⟩
 |neq=>cases e;exact ⟨.bool (!(x==y)),by simp [binOp,Op.stringOp],by rw [jV,iN];exact .bool _⟩
 |lss=>cases e;exact ⟨.bool (Op.bytesLess x y),by simp [binOp,Op.stringOp],by rw [AL];exact .bool _⟩
 |leq=>cases e;exact ⟨.bool (Op.bytesLess x y||(x==y)),by simp [binOp,Op.stringOp],by rw [iN,Dt,AL];exact .bool _⟩
 |gtr=>
  cases e
  refine ⟨.bool (!(Op.bytesLess x y||(x==y))),by simp [binOp,Op.stringOp], ?_⟩
  rw [←AL,←Dt,Bool.not_not];exact .bool _
 |geq=>cases e;exact ⟨.bool (!Op.bytesLess x y),by simp [binOp,Op.stringOp],by rw [iN,AL];exact .bool _⟩
 |_=>cases e
theorem N0 {op:BinOp} {x y v:AV} {x' y' :Value} (hx:VR m x x') (hy:VR m y y') (e:qV op x y= .ok v) (t:TypeId):∃v',(binOp op t x' y').run P w= .ok v' w∧VR m v v' :=by
 cases hx with
 |int k a=>
  cases hy with
  |int k' b=>
   cases op with
   |shl=>
    simp only [qV] at e
    split at e
    ·rename_i h0
     cases e
     have:=wC h0
     have hb:¬b<0:=om
     exact ⟨_,by simp only [binOp,Op.shift,if_neg hb,Sem.run_pure],.int _ _⟩
    ·cases e
   |shr=>
    simp only [qV] at e
    split at e
    ·rename_i h0
     cases e
     have:=wC h0
     have hb:¬b<0:=om
     exact ⟨_,by simp only [binOp,Op.shift,if_neg hb,Sem.run_pure],.int _ _⟩
    ·cases e
   |_=>
    simp only [qV] at e
    split at e
    ·rename_i h0
     have:=GR h0
     subst this
     exact GV e (by simp) t
    ·cases e
  |_=>cases e
 |str a=>
  cases hy with
  |str b=>exact Gp e t
  |_=>cases e
 |_=>cases e
theorem Nt {op:BinOp} (h1:op≠ .eql) (h2:op≠ .neq) (t:TypeId) (x y:Operand) (a b:Value):(eqGuard op t x y a b).run P w= .ok () w:=by
 cases op<;>first|rfl|exact absurd rfl h1|exact absurd rfl h2
theorem Ww (W:WR P genv B w₀ h m w) {ts:fN} {a:Act} (T:TR m ts a.tmps) {nx:jF} {op:BinOp} {t yt:TypeId} {x y:Operand} (e:opA ts h (lJ P genv (.binOp op t x y yt))= .ok nx):
  NX P genv B w₀ h m w nx ((do pure (.value (←(do eqGuard op t x y (a.eval x) (a.eval y);binOp op t (a.eval x) (a.eval y)))):Sem Next).run P w):=by
 have hx:=eR W T x
 have hy:=eR W T y
 have other:op≠ .eql→op≠ .neq→opA ts h (.b2 (.bin op) (opd genv x) (opd genv y))= .ok nx→
   NX P genv B w₀ h m w nx ((do pure (.value (←(do eqGuard op t x y (a.eval x) (a.eval y);binOp op t (a.eval x) (a.eval y)))):Sem Next).run P w):=by
  intro n1 n2 e
  obtain ⟨v,hv,rfl⟩:=Ch e
  obtain ⟨v',h1,h2⟩:=N0 (P:=P) (w:=w) hx hy hv t
  refine oW W ?_ h2
  simp only [Sem.run_bind,Nt n1 n2,Result.andThen_ok,h1]
 cases op with
 |eql=>
  obtain ⟨o,ho,e⟩:=mM e
  obtain ⟨k,hk,rfl⟩:=Option.map_eq_some_iff.1 ho
  obtain ⟨r,hr,e⟩:=R.aM e
  cases e
  exact oW W (LI (w:=w) hk hx hy hr false) (.bool _)
 |neq=>
  obtain ⟨o,ho,e⟩:=mM e
  obtain ⟨k,hk,rfl⟩:=Option.map_eq_some_iff.1 ho
  obtain ⟨r,hr,e⟩:=R.aM e
  cases e
  exact oW W (LI (w:=w) hk hx hy hr true) (by rw [iN];exact .bool _)
 |_=>exact other (by simp) (by simp) e
theorem X9 (W:WR P genv B w₀ h m w) {ts:fN} {a:Act} (T:TR m ts a.tmps) {nx:jF} {op:UnOp} {t:TypeId} {x:Operand} (e:opA ts h (lJ P genv (.unOp op t x))= .ok nx):
  NX P genv B w₀ h m w nx ((do pure (.value (←Op.unary op (a.eval x))):Sem Next).run P w):=by
 have hx:=eR W T x
 simp only [lJ,opA,kE,oUn] at e
 generalize ev ts (opd genv x)=y at hx e
 generalize a.eval x=u at hx⊢
 split at e
 ·rename_i b;cases hx;cases e;exact oW W (v' := .bool (JV b)) (by simp [Op.unary,iN]) (.bool _)
 ·rename_i k n;cases hx;cases e;exact oW W (v' := .int k (wr k (0 -n))) (by simp [Op.unary,Op.intArith,lZ]) (.int _ _)
 ·rename_i k n;cases hx;cases e;exact oW W (v' := .int k (k.wrap (BitVec.ofInt k.bits (if k.signed then -1 else k.max)^^^BitVec.ofInt k.bits n).toNat)) (by simp [Op.unary,Op.intBits]) (.int _ _)
 ·cases e
theorem UW (W:WR P genv B w₀ h m w) {ts:fN} {a:Act} (T:TR m ts a.tmps) {nx:jF} {src dst:TypeId} {x:Operand} (e:opA ts h (lJ P genv (.convert src dst x))= .ok nx):
  NX P genv B w₀ h m w nx ((do pure (.value (←convert src dst (a.eval x))):Sem Next).run P w):=by
 have hx:=eR W T x
 obtain ⟨o,ho,e⟩:=mM e
 split at ho
 ·rename_i k0 k h1 h2
  cases ho
  simp only [opA,kE,oF] at e
  generalize ev ts (opd genv x)=y at hx e
  generalize a.eval x=u at hx⊢
  split at e
  ·cases hx;cases e
   rename_i q n
   exact oW W (v' := .int k (wr k n)) (by simp only [convert,Sem.run_bind,iH h1,iH h2,Result.andThen_ok,Conv.intToInt,Sem.run_pure,lZ]) (.int _ _)
  ·cases e
 ·rename_i h1 h2
  cases ho
  simp only [opA,kE,oE] at e
  generalize ev ts (opd genv x)=y at hx e
  generalize a.eval x=u at hx⊢
  split at e
  ·cases hx;cases e
   exact oW W (by simp only [convert,Sem.run_bind,iH h1,iH h2,Result.andThen_ok,Sem.run_pure]) (.str _)
  ·cases e
 ·rename_i et h1 h2
  split at ho
  ·rename_i h3
   cases ho
   simp only [opA,kE,GF] at e
   generalize ev ts (opd genv x)=y at hx e
   generalize a.eval x=u at hx⊢
   split at e
   ·cases hx;cases e
    exact Cq (H7 W h1 h2 h3 _)
   ·cases e
  ·cases ho
 ·rename_i et h1 h2
  split at ho
  ·rename_i h3
   cases ho
   obtain ⟨s,rfl,h4⟩:=JG W h1 h3 h2 hx e
   exact oW W h4 (.str _)
  ·cases ho
 ·cases ho
end Go.Am
namespace Go.Am
open Go.RowKit
variable {P:Program} {genv:Nat→Option (List AV)} {B:Nat} {w₀:World} {h:aD} {m:Mem} {w:World}
theorem RO (W:WR P genv B w₀ h m w) {ts:fN} {a:Act} (T:TR m ts a.tmps) {nx:jF} {t:TypeId} {x:Operand} {lo hi mx:Option Operand} (e:opA ts h (lJ P genv (.slice t x lo hi mx))= .ok nx):
  NX P genv B w₀ h m w nx ((do pure (.value (←Instr.sliceAt t (a.eval x) (lo.map a.eval) (hi.map a.eval) (mx.map a.eval))):Sem Next).run P w):=by
 have hx:=eR W T x
 have hlo:=EV W T lo
 have hhi:=EV W T hi
 have hmx:=EV W T mx
 obtain ⟨o,ho,e⟩:=mM e
 split at ho
 ·rename_i hu
  cases mx with
  |some _=>cases ho
  |none=>
   cases ho
   obtain ⟨v,hv,rfl⟩:=Ch e
   simp only [evO] at hv
   generalize ev ts (opd genv x)=y at hx hv
   generalize a.eval x=u at hx⊢
   cases hx with
   |str s=>
    obtain ⟨v',h1,h2⟩:=Kn (P:=P) (m:=m) (w:=w) hu hlo hhi hv
    exact oW W h1 h2
   |_=>cases hv
 ·rename_i et hu
  split at ho
  ·rename_i n hn
   split at ho
   ·cases ho
    obtain ⟨v,hv,rfl⟩:=Ch e
    generalize ev ts (opd genv x)=y at hx hv
    generalize a.eval x=u at hx⊢
    cases y with
    |sl tk xs=>
     obtain ⟨v',h1,h2⟩:=ME (P:=P) (m:=m) (w:=w) hu hn hx hlo hhi hmx hv
     exact oW W h1 h2
    |aC=>
     cases hx
     obtain ⟨v',h1,h2⟩:=Kp (P:=P) (m:=m) (w:=w) hu hn hlo hhi hmx hv
     exact oW W h1 h2
    |arr id off len cap=>
     cases hx with
     |arr _ _ _ _ b hb hlc=>
      obtain ⟨v',h1,h2⟩:=Kq (P:=P) (m:=m) (w:=w) hu hn hb hlc hlo hhi hmx hv
      exact oW W h1 h2
    |_=>cases hv
   ·cases ho
  ·cases ho
 ·cases ho
theorem RZ (W:WR P genv B w₀ h m w) {ts:fN} {a:Act} (T:TR m ts a.tmps) {nx:jF} {t:TypeId} {x:Operand} {f:Nat} (e:opA ts h (lJ P genv (.fieldAddr t x f))= .ok nx):
  NX P genv B w₀ h m w nx ((do pure (.value (←Instr.fieldAt t (a.eval x) f)):Sem Next).run P w):=by
 obtain ⟨o,ho,e⟩:=mM e
 split at ho
 ·rename_i fs hu
  split at ho
  ·rename_i fd hf
   split at ho
   ·rename_i hsz
    cases ho
    obtain ⟨v,hv,rfl⟩:=Ch e
    cases hn:tG P fd.type with
    |none=>rw [hn] at hsz;cases hsz
    |some n=>
     rw [hn] at hsz
     have h1:1≤n:=Nat.le_of_ble_eq_true (by simpa using hsz)
     obtain ⟨v',h2,h3⟩:=LH (P:=P) (m:=m) (w:=w) hu hf hn om (eR W T x) hv
     exact oW W h2 h3
   ·cases ho
  ·cases ho
 ·cases ho
theorem RY (W:WR P genv B w₀ h m w) {ts:fN} {a:Act} (T:TR m ts a.tmps) {nx:jF} {t:TypeId} {x:Operand} {f:Nat} (e:opA ts h (lJ P genv (.field t x f))= .ok nx):
  NX P genv B w₀ h m w nx ((do pure (.value (←Instr.field t (a.eval x) f)):Sem Next).run P w):=by
 obtain ⟨o,ho,e⟩:=mM e
 split at ho
 ·rename_i fs hu
  split at ho
  ·rename_i fd hf
   obtain ⟨n,hn,rfl⟩:=Option.map_eq_some_iff.1 ho
   simp only [opA,qS,vF] at e
   split at e
   ·rename_i cs hcs
    obtain ⟨v,hv,rfl⟩:=Ch e
    obtain ⟨v',h2,h3⟩:=QD (P:=P) (m:=m) (w:=w) hu hf hn (eR W T x) hcs hv
    exact oW W h2 h3
   ·cases e
  ·cases ho
 ·cases ho
theorem RX (W:WR P genv B w₀ h m w) {ts:fN} {a:Act} (T:TR m ts a.tmps) {nx:jF} {t:TypeId} {x i:Operand} (e:opA ts h (lJ P genv (.indexAddr t x i))= .ok nx):
  NX P genv B w₀ h m w nx ((do pure (.value (←Instr.indexAt t (a.eval x) (a.eval i))):Sem Next).run P w):=by
 obtain ⟨o,ho,e⟩:=mM e
 split at ho
 ·rename_i et hu
  split at ho
  ·rename_i n hn
   split at ho
   ·cases ho
    obtain ⟨v,hv,rfl⟩:=Ch e
    obtain ⟨v',h2,h3⟩:=Jv W hu hn (eR W T x) (eR W T i) hv
    exact oW W h2 h3
   ·cases ho
  ·cases ho
 ·rename_i len et hu
  split at ho
  ·rename_i n hn
   split at ho
   ·cases ho
    obtain ⟨v,v',rfl,h2,h3⟩:=GW (P:=P) (w:=w) (v:= .unk) hu hn (eR W T x) (eR W T i) e
    exact oW W h2 h3
   ·cases ho
  ·cases ho
 ·cases ho
theorem RW (W:WR P genv B w₀ h m w) {ts:fN} {a:Act} (T:TR m ts a.tmps) {nx:jF} {t:TypeId} {x i:Operand} (e:opA ts h (lJ P genv (.index t x i))= .ok nx):
  NX P genv B w₀ h m w nx ((do pure (.value (←Instr.index t (a.eval x) (a.eval i))):Sem Next).run P w):=by
 obtain ⟨o,ho,e⟩:=mM e
 split at ho
 ·rename_i hu
  cases ho
  obtain ⟨v,v',rfl,h2,h3⟩:=Jt (P:=P) (w:=w) hu (eR W T x) (eR W T i) e
  exact oW W h2 h3
 ·rename_i len et hu
  split at ho
  ·rename_i n q hn hq
   cases ho
   obtain ⟨v,v',rfl,h2,h3⟩:=Ju (P:=P) (w:=w) hu hn hq (eR W T x) (eR W T i) e
   exact oW W h2 h3
  ·cases ho
 ·cases ho
theorem PR (W:WR P genv B w₀ h m w) {ts:fN} {a:Act} (T:TR m ts a.tmps) {nx:jF} {t:TypeId} {x k:Operand} {ok:Bool} (e:opA ts h (lJ P genv (.lookup t x k ok))= .ok nx):
  NX P genv B w₀ h m w nx ((do pure (.value (←Instr.lookup t (a.eval x) (a.eval k) ok)):Sem Next).run P w):=by
 obtain ⟨o,ho,e⟩:=mM e
 split at ho
 ·rename_i kt et hu
  split at ho
  ·rename_i kn z hk hz
   cases ho
   obtain ⟨i,zv,_,_,h1,h2⟩:=Dx (m:=m) hz
   obtain ⟨v,v',rfl,h3,h4⟩:=Jo W hu hk hz ⟨zv,h2 w,h1⟩ (eR W T x) (eR W T k) ok e
   exact oW W h3 h4
  ·cases ho
 ·cases ho
theorem Ik (W:WR P genv B w₀ h m w) {ts:fN} {a:Act} (T:TR m ts a.tmps) {nx:jF} {t:TypeId} {x k v:Operand} (e:opA ts h (lJ P genv (.mapUpdate t x k v))= .ok nx):
  NX P genv B w₀ h m w nx ((do Instr.mapUpdate t (a.eval x) (a.eval k) (a.eval v);pure .skip:Sem Next).run P w):=by
 obtain ⟨o,ho,e⟩:=mM e
 split at ho
 ·rename_i kt et hu
  obtain ⟨kn,hk,rfl⟩:=Option.map_eq_some_iff.1 ho
  obtain ⟨h',w',rfl,h1,h2,h3⟩:=Jm W hu hk (eR W T x) (eR W T k) (eR W T v) e
  simp only [Sem.run_bind,h1,Result.andThen_ok,Sem.run_pure]
  exact .skip (.heap m h3) h2
 ·cases ho
theorem Ms (s:List UInt8) (pos:Nat) (b:UInt8) (hb:s[pos]? =some b) (h:b.toNat<128):Utf8.decode ⟨s.toArray⟩ pos=(b.toNat,1):=by
 have hlt:pos<s.length:=(List.getElem?_eq_some_iff.1 hb).1
 have hg:(⟨s.toArray⟩:ByteArray).get! (pos+0)=b:=by
  rw [Nat.add_zero]
  have:=(List.getElem?_eq_some_iff.1 hb).2
  simp [ByteArray.get!,hlt]
  simpa using this
 simp only [Utf8.decode,hg]
 rw [if_pos h]
theorem UR (W:WR P genv B w₀ h m w) {ts:fN} {a:Act} (T:TR m ts a.tmps) {nx:jF} {x:Operand} {str:Bool} {t:TypeId} (e:opA ts h (lJ P genv (.next x str))= .ok nx):
  NX P genv B w₀ h m w nx ((do pure (.value (←Instr.next (a.eval x) str t)):Sem Next).run P w):=by
 cases str with
 |false=>cases e
 |true=>
  have hx:=eR W T x
  simp only [lJ,opA,kE,R9] at e
  generalize ev ts (opd genv x)=y at hx e
  generalize a.eval x=u at hx⊢
  split at e
  ·rename_i id
   split at e
   ·rename_i s pos hg
    cases hx with
    |ptr _ _ b hb=>
     obtain ⟨o,r,h1,h2,h3⟩:=W.obj id b hb
     rw [hg] at h1;cases h1
     cases h3 with
     |Ag _ _=>
      have hgo:(getObj b).run P w= .ok (.stringIter ⟨s.toArray⟩ pos) w:=by simp [getObj,Sem.run,h2]
      have hso:∀o,(setObj b o).run P w= .ok () {w with heap:=w.heap.setIfInBounds b o}:=fun o=>by simp [setObj,Sem.run,h2]
      have hsz:(⟨s.toArray⟩:ByteArray).size=s.length:=by simp [ByteArray.size]
      unfold Jh at e
      split at e
      ·rename_i c hc
       rw [yU] at hc
       split at e
       ·rename_i hlt
        have SW :c.toNat<128:=by simpa [Nat.blt_eq] using hlt
        cases e
        have Qu:pos<s.length:=(List.getElem?_eq_some_iff.1 hc).1
        have hW:=W.setObj hb (o:= .Ag s (pos+1)) (r:= .stringIter ⟨s.toArray⟩ (pos+1)) h2 (fun n hh=>by rw [hg] at hh;cases hh) (.Ag _ _) (fun _ _ _ hh=>by cases hh)
        have vI:(Instr.next (.pointer (some ⟨b,0,none⟩)) true t).run P w= .ok (.tuple #[.bool true,goInt pos,.int .i32 c.toNat]) {w with heap:=w.heap.setIfInBounds b (.stringIter ⟨s.toArray⟩ (pos+1))}:=by
         simp only [Instr.next,Sem.run_bind,hgo,Result.andThen_ok,hsz,if_pos Qu,Ms s pos c hc SW,hso,Sem.run_pure]
        simp only [Sem.run_bind,vI,Result.andThen_ok,Sem.run_pure]
        exact .val (.heap m rfl) hW (.tup _ [.bool true,.int .i64 pos,.int .i32 c.toNat] rfl (LR.cons (.bool true) (LR.cons (.int _ _) (LR.one (.int _ _)))).2)
       ·cases e
      ·rename_i hc
       rw [yU] at hc
       cases e
       have Qu:¬pos<s.length:=by rw [List.getElem?_eq_none_iff] at hc;omega
       have vI:(Instr.next (.pointer (some ⟨b,0,none⟩)) true t).run P w= .ok (.tuple #[.bool false]) w:=by
        simp only [Instr.next,Sem.run_bind,hgo,Result.andThen_ok,hsz,if_neg Qu,Sem.run_pure]
       exact oW W vI (.tup _ [.bool false] rfl (LR.one (.bool false)).2)
   ·cases e
  ·cases e
theorem MT (W:WR P genv B w₀ h m w) {ts:fN} {a:Act} (T:TR m ts a.tmps) {nx:jF} {x:Operand} {xt t:TypeId} {ok:Bool} (e:opA ts h (lJ P genv (.typeAssert x xt t ok))= .ok nx):
  NX P genv B w₀ h m w nx ((do pure (.value (←Instr.typeAssert (a.eval x) xt t ok)):Sem Next).run P w):=by
 cases ok with
 |false=>cases e
 |true=>
  have hx:=eR W T x
  obtain ⟨o,ho,e⟩:=mM e
  split at ho
  ·cases ho
  ·cases ho
  ·rename_i d h1 hd
   obtain ⟨z,hz,rfl⟩:=Option.map_eq_some_iff.1 ho
   obtain ⟨i,zv,_,_,hzv,hzr⟩:=Dx (m:=m) hz
   simp only [opA,kE,jL] at e
   generalize ev ts (opd genv x)=y at hx e
   generalize a.eval x=u at hx⊢
   split at e
   ·rename_i t' v
    cases hx with
    |iface _ _ v' hv=>
     cases e
     by_cases ht:t=t'
     ·subst ht
      have hb:Nat.beq t t=true:=by simp
      rw [hb]
      have vI:(Instr.typeAssert (.iface t v') xt t true).run P w= .ok (.tuple #[v',.bool true]) w:=by
       simp only [Instr.typeAssert,Sem.run_bind,iH hd,Result.andThen_ok]
       cases d<;>first|(exact absurd rfl (h1 _))|simp
      exact oW W vI (.tup _ [v',.bool true] rfl (LR.cons hv (LR.one (.bool true))).2)
     ·have hb:Nat.beq t t' =false:=by rw [Bool.eq_false_iff];simpa [Nat.beq_eq] using ht
      rw [hb]
      have ht2:¬t' =t:=fun hh=>ht hh.symm
      have vI:(Instr.typeAssert (.iface t' v') xt t true).run P w= .ok (.tuple #[zv,.bool false]) w:=by
       simp only [Instr.typeAssert,Sem.run_bind,iH hd,Result.andThen_ok]
       cases d<;>first|(exact absurd rfl (h1 _))|simp [ht2,hzr]
      exact oW W vI (.tup _ [zv,.bool false] rfl (LR.cons hzv (LR.one (.bool false))).2)
   ·cases hx
    cases e
    have vI:(Instr.typeAssert .nilIface xt t true).run P w= .ok (.tuple #[zv,.bool false]) w:=by
     simp only [Instr.typeAssert,Sem.run_bind,iH hd,Result.andThen_ok]
     cases d<;>first|(exact absurd rfl (h1 _))|simp [hzr]
    exact oW W vI (.tup _ [zv,.bool false] rfl (LR.cons hzv (LR.one (.bool false))).2)
   ·cases e
theorem MV (W:WR P genv B w₀ h m w) {ts:fN} {a:Act} (T:TR m ts a.tmps) {nx:jF} {x:Operand} {i:Nat} (e:opA ts h (lJ P genv (.extract x i))= .ok nx):
  NX P genv B w₀ h m w nx ((do pure (.value (←Instr.extract (a.eval x) i)):Sem Next).run P w):=by
 have hx:=eR W T x
 simp only [lJ,opA,qS,jT] at e
 generalize ev ts (opd genv x)=y at hx e
 generalize a.eval x=u at hx⊢
 split at e
 ·split at e
  ·rename_i vs v hv
   cases hx with
   |tup _ us h1 h2=>
    cases e
    rw [yU] at hv
    obtain ⟨v',h3,h4⟩:=LR.get ⟨h1,h2⟩ hv
    exact oW W (by simp [Instr.extract,h3]) h4
  ·cases e
 ·cases e
theorem Nx {f:FuncId} {first capt:List AV} {u:Value} (r:VR m (.fn f first capt) u):∃fs cs,u= .func (.func f) fs.toArray cs.toArray∧LR m first fs∧LR m capt cs:=by
 cases r with
 |fn _ _ _ fs cs h1 h2 h3 h4=>exact ⟨fs,cs,rfl,⟨h1,h2⟩,⟨h3,h4⟩⟩
theorem Pq {l:Nat} {u:Value} (r:VR m (.yield l) u):∃b,u= .func (.yield b) #[] #[]∧m.ρ l=some b:=by
 cases r with
 |yield _ b hb=>exact ⟨b,rfl,hb⟩
theorem Lc (a:Act) (xs:Array Operand):(xs.map a.eval).toList=xs.toList.map a.eval:=by simp
theorem Jg (W:WR P genv B w₀ h m w) {ts:fN} {a:Act} (T:TR m ts a.tmps) {nx:jF} {c:Call} {f:Operand} {t:TypeId} (hc:c.callee= .value f)
  (e:opA ts h (.call (opd genv f) (c.args.toList.map (opd genv)))= .ok nx):
  NX P genv B w₀ h m w nx ((do let d ←resolve a.eval c t;invoke d.target d.args:Sem Next).run P w):=by
 have hf:=eR W T f
 have Cc:=yS W T c.args.toList
 simp only [opA,mU] at e
 simp only [resolve,hc]
 generalize ev ts (opd genv f)=y at hf e
 generalize a.eval f=u at hf⊢
 split at e
 ·rename_i g first capt
  cases e
  obtain ⟨fs,cs,rfl,h1,h2⟩:=Nx hf
  simp only [Deferred.ofValue,Sem.run_bind,Sem.run_pure,Result.andThen_ok,invoke]
  refine .enter ?_
  have:(fs.toArray++c.args.map a.eval++cs.toArray).toList=fs++c.args.toList.map a.eval++cs:=by simp
  rw [this]
  exact (h1.append Cc).append h2
 ·rename_i l
  cases e
  obtain ⟨b,rfl,hb⟩:=Pq hf
  simp only [Deferred.ofValue,Sem.run_bind,Sem.run_pure,Result.andThen_ok,invoke]
  refine .round hb ?_
  have:(#[]++c.args.map a.eval:Array Value).toList=c.args.toList.map a.eval:=by simp
  rw [this]
  exact Cc
 ·cases e
theorem R0 (W:WR P genv B w₀ h m w) {ts:fN} {a:Act} (T:TR m ts a.tmps) {nx:jF} {c:Call} {t:TypeId} (e:opA ts h (lJ P genv (.defer c))= .ok nx):
  NX P genv B w₀ h m w nx ((do pure (.defer (←resolve a.eval c t)):Sem Next).run P w):=by
 unfold lJ at e
 simp only at e
 split at e
 ·rename_i f hc
  have hf:=eR W T f
  have Cc:=yS W T c.args.toList
  simp only [opA,pL,mZ] at e
  simp only [resolve,hc]
  generalize ev ts (opd genv f)=y at hf e
  generalize a.eval f=u at hf⊢
  split at e
  ·rename_i g first capt
   cases e
   obtain ⟨fs,cs,rfl,h1,h2⟩:=Nx hf
   simp only [Deferred.ofValue,Sem.run_bind,Sem.run_pure,Result.andThen_ok]
   refine .defer ?_
   have:fs.toArray++c.args.map a.eval=(fs++c.args.toList.map a.eval).toArray:=by apply Array.ext';simp
   rw [this]
   exact .call _ _ _ _ ((h1.append Cc).append h2)
  ·cases e
 ·cases e
def Zc (P:Program) (t:TypeId):LK→Prop
 | .str=>P.underlying t=some .string
 | .sl=>∃e,P.underlying t=some (.slice e)
 | .map=>∃k e,P.underlying t=some (.map k e)
theorem Qf (W:WR P genv B w₀ h m w) {x:AV} {x' :Value} (hx:VR m x x') {k:LK} {n:Nat} (e:nJ h k x= .ok n) {t ty:TypeId}
  (hu:Zc P t k):
  (Builtin.len_ #[t] ty #[x']).run P w= .ok (goInt n) w:=by
 cases k with
 |str=>
  cases hx<;>try (cases e;done)
  cases e
  rename_i s
  have hsz:(⟨s.toArray⟩:ByteArray).size=s.length:=by simp [ByteArray.size]
  have hd:P.underlying t=some .string:=hu
  simp [Builtin.len_,iH hd,hsz]
 |sl=>
  obtain ⟨et,hd⟩:=hu
  cases hx<;>try (cases e;done)
  all_goals (cases e;simp [Builtin.len_,iH hd])
 |map=>
  obtain ⟨kt,et,hd⟩:=hu
  cases hx with
  |qQ=>cases e;simp [Builtin.len_,iH hd]
  |map id b hb=>
   simp only [nJ] at e
   split at e
   ·rename_i es c hg
    cases e
    obtain ⟨rs,h1,h2⟩:=Nb W hb hg
    have hgo:(getObj b).run P w= .ok (.map rs c) w:=by simp [getObj,Sem.run,h1]
    have:=h2.length
    simp [Builtin.len_,iH hd,hgo,this]
   ·cases e
  |_=>cases e
theorem Gm {α:Type} {a:Array α} {x y:α} (e:a.toList=[x,y]):a= #[x,y]:=Array.ext' e
theorem BF {α:Type} {a:Array α} {x:α} (e:a.toList=[x]):a= #[x]:=Array.ext' e
theorem MW (W:WR P genv B w₀ h m w) {ts:fN} {a:Act} (T:TR m ts a.tmps) {nx:jF} {c:Call} {b:Builtin} {t:TypeId} (hc:c.callee= .builtin b)
  (e:opA ts h (Cy P (opd genv) c)= .ok nx):
  NX P genv B w₀ h m w nx ((do let d ←resolve a.eval c t;invoke d.target d.args:Sem Next).run P w):=by
 unfold Cy at e
 rw [hc] at e
 simp only at e
 simp only [resolve,hc,Sem.run_bind,Sem.run_pure,Result.andThen_ok,invoke]
 split at e
 ·rename_i x t0 h1 h2
  have ha:=BF h1
  have ht:=BF h2
  have hx:=eR W T x
  obtain ⟨o,ho,e⟩:=mM e
  have fin:∀k,Zc P t0 k→
    opA ts h (.u1 (.len k) (opd genv x))= .ok nx→NX P genv B w₀ h m w nx ((builtin .len c.argTypes t (c.args.map fun| .const _=>true|_=>false) (c.args.map a.eval)).run P w):=by
   intro k hk e
   obtain ⟨n,hn,e⟩:=R.aM e
   cases e
   rw [ha,ht,show (#[x]:Array Operand).map a.eval= #[a.eval x] by simp]
   exact oW W (Qf W hx hn hk) (.int _ _)
  split at ho
  ·rename_i hd;cases ho;exact fin .str hd e
  ·rename_i hd;cases ho;exact fin .sl ⟨_,hd⟩ e
  ·rename_i hd;cases ho;exact fin .map ⟨_,_,hd⟩ e
  ·cases ho
 ·rename_i x t0 h1 h2
  have ha:=BF h1
  have ht:=BF h2
  have hx:=eR W T x
  obtain ⟨o,ho,e⟩:=mM e
  split at ho
  ·rename_i et hd
   cases ho
   simp only [opA,kE,vG] at e
   rw [ha,ht]
   simp only [List.map_toArray,List.map_cons,List.map_nil]
   generalize ev ts (opd genv x)=y at hx e
   generalize a.eval x=u at hx⊢
   split at e
   ·cases hx with
    |sl _ xs vs b off cap sz sp h1 h2 h3 h4 h5 h6 h7 h8 hsp=>
     cases e
     have:=h7 rfl
     subst this
     exact oW W (by simp [Builtin.cap_,iH hd];rfl) (.int _ _)
   ·cases hx;cases e
    exact oW W (by simp [Builtin.cap_,iH hd];rfl) (.int _ _)
   ·cases hx;cases e
    exact oW W (by simp [Builtin.cap_,iH hd];rfl) (.int _ _)
   ·cases e
  ·cases ho
 ·rename_i s x st xt h1 h2
  have ha:=Gm h1
  have ht:=Gm h2
  obtain ⟨o,ho,e2⟩:=mM e
  clear e
  split at ho
  ·rename_i et hd
   split at ho
   ·rename_i n z i hn hz hi
    split at ho
    ·rename_i zU
     cases ho
     simp only [Bool.and_eq_true] at zU
     obtain ⟨⟨⟨c1,c2⟩,c3⟩,c4⟩:=zU
     have hst:st=xt:=Nat.eq_of_beq_eq_true c1
     subst hst
     obtain ⟨i',zv,hi',hzv,hzr,_⟩:=uO (m:=m) hz
     obtain ⟨i2,hi2,hs2⟩:=qX hn
     rw [hi] at hi' hi2
     cases hi';cases hi2
     have hz0:z.length=n:=Nat.eq_of_beq_eq_true c3
     have hT:VM P st et i zv:=⟨hd,hi,hzv,by rw [hs2];exact Nat.le_of_ble_eq_true c2,by rw [hs2,←hz0,hzr.1,Array.length_toList],Nat.le_of_ble_eq_true c4⟩
     obtain ⟨⟨v,h'⟩,hr,e3⟩:=R.aM e2
     cases e3
     rw [←hs2] at hr
     rw [ha,ht,show (#[s,x]:Array Operand).map a.eval= #[a.eval s,a.eval x] by simp]
     exact Cq (JX W hT (eR W T s) (eR W T x) hr)
    ·cases ho
   ·cases ho
  ·cases ho
 ·have hl:=yS W T c.args.toList
  have hm:(c.args.map a.eval).toList=c.args.toList.map a.eval:=by rw [Lc]
  simp only [opA,pL,oMx] at e
  generalize hy:evL ts (c.args.toList.map (opd genv))=ys at hl e
  cases ys with
  |nil=>cases e
  |cons y r=>
   obtain ⟨u,us,hu,hyu,hr⟩:=hl.cons_inv
   obtain ⟨v,hv,rfl⟩:=Ch e
   obtain ⟨v',h2,h3⟩:=GJ (P:=P) (w:=w) true r us y v u hyu hr hv
   refine oW W ?_ h3
   unfold Builtin.max_
   rw [hm,hu]
   exact h2
 ·have hl:=yS W T c.args.toList
  have hm:(c.args.map a.eval).toList=c.args.toList.map a.eval:=by rw [Lc]
  simp only [opA,pL,oMx] at e
  generalize hy:evL ts (c.args.toList.map (opd genv))=ys at hl e
  cases ys with
  |nil=>cases e
  |cons y r=>
   obtain ⟨u,us,hu,hyu,hr⟩:=hl.cons_inv
   obtain ⟨v,hv,rfl⟩:=Ch e
   obtain ⟨v',h2,h3⟩:=GJ (P:=P) (w:=w) false r us y v u hyu hr hv
   refine oW W ?_ h3
   unfold Builtin.min_
   rw [hm,hu]
   exact h2
 ·cases e;exact .recover
 ·cases e
end Go.Am
namespace Go.Am
open Go.RowKit
variable {P:Program} {genv:Nat→Option (List AV)} {B:Nat} {w₀:World} {h:aD} {m:Mem} {w:World}
theorem run_newObj (o:Obj):(newObj o).run P w= .ok w.heap.size (w.alloc o):=by simp [newObj,Sem.run]
theorem UQ (W:WR P genv B w₀ h m w) {ts:fN} {a:Act} (T:TR m ts a.tmps) {nx:jF} {c x y:Operand} (e:opA ts h (lJ P genv (.pick c x y))= .ok nx):
  NX P genv B w₀ h m w nx ((do pure (.value (if ←asBool (a.eval c) then a.eval x else a.eval y)):Sem Next).run P w):=by
 have hc:=eR W T c
 have hx:=eR W T x
 have hy:=eR W T y
 simp only [lJ,opA,pL,qO] at e
 generalize ev ts (opd genv c)=b at hc e
 generalize a.eval c=u at hc⊢
 split at e
 ·cases hc;cases e;simp [asBool];exact .same W hx
 ·cases hc;cases e;simp [asBool];exact .same W hy
 ·cases e
theorem US (W:WR P genv B w₀ h m w) {ts:fN} {a:Act} (T:TR m ts a.tmps) {nx:jF} {t:TypeId} {x:Operand} (e:opA ts h (lJ P genv (.makeInterface t x))= .ok nx):
  NX P genv B w₀ h m w nx ((do pure (.value (←Instr.makeInterface t (a.eval x))):Sem Next).run P w):=by
 obtain ⟨o,ho,e⟩:=mM e
 split at ho
 ·cases ho
 ·cases ho
 ·rename_i d hd hu
  cases ho
  cases e
  refine oW W ?_ (.iface t _ _ (eR W T x))
  unfold Instr.makeInterface
  rw [Sem.run_bind,iH hu,Result.andThen_ok]
  cases d with
  |interface ms=>exact absurd rfl (hd ms)
  |_=>rfl
theorem UT (W:WR P genv B w₀ h m w) {ts:fN} {a:Act} (T:TR m ts a.tmps) {nx:jF} {fn:Fn} {x y:Array Operand} (e:opA ts h (lJ P genv (.makeFunc fn x y))= .ok nx):
  NX P genv B w₀ h m w nx ((do pure (.value (←Instr.makeFunc fn (x.map a.eval) (y.map a.eval))):Sem Next).run P w):=by
 cases fn with
 |func f=>
  cases e
  refine oW W (v' := .func (.func f) (x.map a.eval) (y.map a.eval)) rfl ?_
  have h1:=yS W T x.toList
  have h2:=yS W T y.toList
  have e1:x.map a.eval=(x.toList.map a.eval).toArray:=by apply Array.ext';simp
  have e2:y.map a.eval=(y.toList.map a.eval).toArray:=by apply Array.ext';simp
  rw [e1,e2]
  exact .fn f _ _ _ _ h1.1 h1.2 h2.1 h2.2
 |_=>cases e
theorem RU (W:WR P genv B w₀ h m w) {ts:fN} {a:Act} {nx:jF} {t:TypeId} {r:Option Operand} (e:opA ts h (lJ P genv (.makeMap t r))= .ok nx):
  NX P genv B w₀ h m w nx ((do pure (.value (←Instr.makeMap t (r.map a.eval))):Sem Next).run P w):=by
 cases r with
 |some _=>cases e
 |none=>
  obtain ⟨o,ho,e⟩:=mM e
  split at ho
  ·cases ho
   cases e
   refine Cq ⟨.map (some w.heap.size),m.box h.next w.heap.size,w.alloc (.map #[] 0), ?_,.map _ _ (ρHz _ _ _),W.BK (.map [] 0) (.map #[] 0) (.map [] 0 #[] .nil),rZ W _⟩
   simp only [Instr.makeMap,Option.map_none,Sem.run_bind,run_newObj,Result.andThen_ok]
   rfl
  ·cases ho
theorem MU (W:WR P genv B w₀ h m w) {ts:fN} {a:Act} (T:TR m ts a.tmps) {nx:jF} {t:TypeId} {l c:Operand} (e:opA ts h (lJ P genv (.makeSlice t l c))= .ok nx):
  NX P genv B w₀ h m w nx ((do pure (.value (←Instr.makeSlice t (a.eval l) (a.eval c))):Sem Next).run P w):=by
 obtain ⟨o,ho,e⟩:=mM e
 split at ho
 ·rename_i et hd
  split at ho
  ·rename_i n z i hn hz hi
   split at ho
   ·rename_i zU
    cases ho
    simp only [Bool.and_eq_true] at zU
    obtain ⟨⟨c2,c3⟩,c4⟩:=zU
    obtain ⟨v,h',v',m',w',rfl,k1,k2,k3,k4⟩:=HV W hd hn hz hi (Nat.le_of_ble_eq_true c2) (Nat.eq_of_beq_eq_true c3) (Nat.le_of_ble_eq_true c4) (eR W T l) (eR W T c) e
    exact Cq ⟨v',m',w',k1,k2,k3,k4⟩
   ·cases ho
  ·cases ho
 ·cases ho
theorem RQ (W:WR P genv B w₀ h m w) {ts:fN} {a:Act} (T:TR m ts a.tmps) {nx:jF} {t:TypeId} {x:Operand} (e:opA ts h (lJ P genv (.range t x))= .ok nx):
  NX P genv B w₀ h m w nx ((do pure (.value (←Instr.range t (a.eval x))):Sem Next).run P w):=by
 obtain ⟨o,ho,e⟩:=mM e
 split at ho
 ·rename_i hd
  cases ho
  have hx:=eR W T x
  simp only [opA,kE,R7] at e
  generalize ev ts (opd genv x)=y at hx e
  generalize a.eval x=u at hx⊢
  split at e
  ·cases hx
   cases e
   rename_i s
   refine Cq ⟨.pointer (some ⟨w.heap.size,0,none⟩),m.box h.next w.heap.size,w.alloc (.stringIter ⟨s.toArray⟩ 0), ?_,.ptr _ _ _ (ρHz _ _ _),W.BK (.Ag s 0) _ (.Ag s 0),rZ W _⟩
   simp only [Instr.range,Sem.run_bind,iH hd,run_newObj,Result.andThen_ok,Sem.run_pure]
  ·cases e
 ·cases ho
theorem RS (W:WR P genv B w₀ h m w) {ts:fN} {a:Act} (T:TR m ts a.tmps) {nx:jF} {x:Operand} (e:opA ts h (lJ P genv (.panic x))= .ok nx):
  NX P genv B w₀ h m w nx ((do pure (.value (←Instr.panic (a.eval x))):Sem Next).run P w):=by
 have hx:=eR W T x
 simp only [lJ,opA,kE,R8] at e
 generalize ev ts (opd genv x)=y at hx e
 generalize a.eval x=u at hx⊢
 split at e
 ·cases e
  cases hx
  rename_i k
  exact .panic (.iface _ _ _ k)
 ·cases e
theorem PS (W:WR P genv B w₀ h m w) {ts:fN} {a:Act} (T:TR m ts a.tmps) {nx:jF} {t:TypeId} {x k v:Operand} (e:opA ts h (lJ P genv (.insert t x k v))= .ok nx):
  NX P genv B w₀ h m w nx ((do Instr.mapUpdate t (a.eval x) (a.eval k) (a.eval v);pure .skip:Sem Next).run P w):=Ik W T e
theorem RN (W:WR P genv B w₀ h m w) {ts:fN} {a:Act} (T:TR m ts a.tmps) {nx:jF} (o:Oper) (e:opA ts h (lJ P genv o.op)= .ok nx):
  NX P genv B w₀ h m w nx ((execOp a.eval o).run P w):=by
 cases ho:o.op with
 |move x=>rw [ho] at e;cases e;simp only [execOp,ho,Sem.run_pure];exact .same W (eR W T x)
 |assign x=>rw [ho] at e;cases e;simp only [execOp,ho,Sem.run_pure];exact .same W (eR W T x)
 |pick c x y=>rw [ho] at e;simp only [execOp,ho];exact UQ W T e
 |alloc t=>rw [ho] at e;simp only [execOp,ho];exact R2 W e
 |box t x=>rw [ho] at e;simp only [execOp,ho];exact Wv W T e
 |build t p=>rw [ho] at e;simp only [execOp,ho];exact R1 W T e
 |buildSlice t l p=>rw [ho] at e;simp only [execOp,ho];exact PT W T e
 |load t x=>rw [ho] at e;simp only [execOp,ho];exact UU W T e
 |store t x y=>rw [ho] at e;simp only [execOp,ho];exact RM W T e
 |nilCheck x=>exact PQ W T ho (ho▸e)
 |binOp b t x y yt=>rw [ho] at e;simp only [execOp,ho];exact Ww W T e
 |unOp u t x=>rw [ho] at e;simp only [execOp,ho];exact X9 W T e
 |convert s d x=>rw [ho] at e;simp only [execOp,ho];exact UW W T e
 |makeInterface t x=>rw [ho] at e;simp only [execOp,ho];exact US W T e
 |makeFunc f x y=>rw [ho] at e;simp only [execOp,ho];exact UT W T e
 |makeMap t r=>rw [ho] at e;simp only [execOp,ho];exact RU W e
 |makeSlice t l c=>rw [ho] at e;simp only [execOp,ho];exact MU W T e
 |slice t x lo hi mx=>rw [ho] at e;simp only [execOp,ho];exact RO W T e
 |fieldAddr t x f=>rw [ho] at e;simp only [execOp,ho];exact RZ W T e
 |field t x f=>rw [ho] at e;simp only [execOp,ho];exact RY W T e
 |indexAddr t x i=>rw [ho] at e;simp only [execOp,ho];exact RX W T e
 |index t x i=>rw [ho] at e;simp only [execOp,ho];exact RW W T e
 |lookup t x k ok=>rw [ho] at e;simp only [execOp,ho];exact PR W T e
 |mapUpdate t x k v=>rw [ho] at e;simp only [execOp,ho];exact Ik W T e
 |insert t x k v=>rw [ho] at e;simp only [execOp,ho];exact PS W T e
 |range t x=>rw [ho] at e;simp only [execOp,ho];exact RQ W T e
 |next x s=>
  rw [ho] at e
  cases s with
  |false=>cases e
  |true=>simp only [execOp,ho];exact UR W T e
 |typeAssert x xt t ok=>rw [ho] at e;simp only [execOp,ho];exact MT W T e
 |extract x i=>rw [ho] at e;simp only [execOp,ho];exact MV W T e
 |call c=>
  rw [ho] at e
  simp only [execOp,ho]
  cases hc:c.callee with
  |value f=>
   simp only [lJ,Cy,hc] at e
   exact Jg W T hc e
  |builtin b=>exact MW W T hc e
  |invoke i n=>simp only [lJ,Cy,hc] at e;cases e
 |defer c=>rw [ho] at e;simp only [execOp,ho];exact R0 W T e
 |panic x=>rw [ho] at e;simp only [execOp,ho];exact RS W T e
 |_=>rw [ho] at e;cases e
end Go.Am
namespace Go.Am
open Go.RowKit
inductive ChR (m:Mem):List pQ→List PanicEntry→Prop
 |nil:ChR m [] []
 |cons {p:pQ} {e:PanicEntry} {ps:List pQ} {es:List PanicEntry}:VR m p.v e.v→e.recovered=p.recovered→e.goexit=false→ChR m ps es→ChR m (p::ps) (e::es)
theorem ChR.mono {m m' :Mem} (h:m.Le m') {a:List pQ} {d:List PanicEntry} (r:ChR m a d):ChR m' a d:=by
 induction r with
 |nil=>exact .nil
 |cons h1 h2 h3 _ ih=>exact .cons (h1.mono h) h2 h3 ih
theorem ChR.append {m:Mem} {a b:List pQ} {c d:List PanicEntry} (h:ChR m a c) (k:ChR m b d):ChR m (a++b) (c++d):=by
 induction h with
 |nil=>exact k
 |cons h1 h2 h3 _ ih=>exact .cons h1 h2 h3 ih
inductive KR (m:Mem) (kind:CallKind):List Frame→RC→List Frame→Prop
 |plain {cs:List Frame}:kind= .normal→KR m kind cs .plain cs
 |ret {c:Frame} {rest:List Frame}:kind= .deferred→c.mode= .returning→KR m kind (c::rest) .ret (c::rest)
 |pan {c:Frame} {rest:List Frame} {chain:List pQ} {ch:List PanicEntry}:kind= .deferred→ChR m chain ch→KR m kind (c::rest) (.pan chain) ({c with mode:= .panicking ch}::rest)
theorem KR.mono {m m' :Mem} (h:m.Le m') {kind:CallKind} {cs0 cs:List Frame} {rc:RC} (r:KR m kind cs0 rc cs):KR m' kind cs0 rc cs:=by
 cases r with
 |plain e=>exact .plain e
 |ret e k=>exact .ret e k
 |pan e k=>exact .pan e (k.mono h)
structure SR (m:Mem) (s:St) (a:Act) (n:Nat):Prop where
 tmps:TR m s.tmps a.tmps
 size:n≤a.tmps.size
 defers:DL m s.defers a.defers
def RdR (m:Mem):Option Nat→Option Nat→Prop
 |none,none=>True
 |some l,some lb=>m.ρ l=some lb
 |_,_=>False
theorem RdR.mono {m m' :Mem} (h:m.Le m') {rd ro:Option Nat} (r:RdR m rd ro):RdR m' rd ro:=by
 cases rd<;>cases ro<;>first|exact r|exact h.ρ _ _ r
structure FR (m:Mem) (fn:FuncId) (rd:Option Nat) (b:Frame):Prop where
 fn:b.fn=fn
 rd:RdR m rd b.roundOf
theorem FR.mono {m m' :Mem} (h:m.Le m') {fn:FuncId} {rd:Option Nat} {b:Frame} (r:FR m fn rd b):FR m' fn rd b:=⟨r.fn,r.rd.mono h⟩
def VL (b:Frame) (k:List Item) (m:Mem) (a:Act) (fr:Frame):Exit→Prop
 | .normal=>fr=b.atR a k
 | .exit id=>∃k1,fr=b.atR a (.code (.exit id)::k1)∧exitTo id k1=exitTo id k
 | .ret=>∃k1,fr=b.atR a (.code .ret::k1)
 | .panic ch=>∃k1 ch',fr={b.atR a k1 with mode:= .panicking ch' }∧ChR m ch ch'
section
variable (P:Program) (genv:Nat→Option (List AV)) (B:Nat) (w₀:World)
def uS (n:Nat) (b:Frame) (cs0:List Frame) (k:List Item) (h:aD) (m:Mem) (m0:Machine) (x:Exit) (s:St):Prop:=
 ∃a' m' w' cs' fr,Steps P m0 (lone fr cs' w')∧VL b k m' a' fr x∧SR m' s a' n∧WR P genv B w₀ s.heap m' w' ∧KR m' b.kind cs0 s.rc cs' ∧Ext h m s.heap m'
def XK (m:Mem) (w:World) (f:FuncId) (fr:Frame):Dw→Prop
 | .ret v=>fr.mode= .returning∧∃fn v',P.funcs[f]? =some fn∧(results fn fr.tmps).run P w= .ok v' w∧VR m v v'
 | .panic ch=>∃ch',fr.mode= .panicking ch' ∧ChR m ch ch'
def Leaves (f:FuncId) (kind:CallKind) (cs0:List Frame) (h:aD) (m:Mem) (m0:Machine) (x:Dw) (rc:RC) (h' :aD):Prop:=
 ∃m' w' cs' fr,Steps P m0 (lone fr cs' w')∧fr.fn=f∧fr.kind=kind∧fr.defers=[]∧(∃fn,P.funcs[f]? =some fn)∧XK P m' w' f fr x∧KR m' kind cs0 rc cs' ∧WR P genv B w₀ h' m' w' ∧Ext h m h' m'
def Zh (m:Mem) (c fr:Frame):Dw→Prop
 | .ret v=>∃v',VR m v v' ∧fr=c.finish v'
 | .panic ch=>∃ch',ChR m ch ch' ∧fr=c.raise ch'
def Mp (c:Frame) (cs:List Frame) (h:aD) (m:Mem) (m0:Machine) (x:Dw) (h' :aD):Prop:=
 ∃m' w' fr,Steps P m0 (lone fr cs w')∧Zh m' c fr x∧WR P genv B w₀ h' m' w' ∧Ext h m h' m'
def FN (m:Mem):Option (List pQ)→FrameMode→Prop
 |none,.returning=>True
 |some ch,.panicking ch' =>ChR m ch ch'
 |_,_=>False
def Ob (code:Code) (it:Item):Prop:=it= .code code∨∃c,code= .loop c∧it= .inLoop c
def Bz:Task→Ans→Prop
 | .code fn rd c s,ans=>∀(n:Nat) (code:Code) (it:Item) (m:Mem) (w:World) (b:Frame) (a:Act) (k:List Item) (cs0 cs:List Frame),
   CR P genv n code c→Ob code it→FR m fn rd b→SR m s a n→WR P genv B w₀ s.heap m w→KR m b.kind cs0 s.rc cs→
    ∃x s',ans= .code x s' ∧uS P genv B w₀ n b cs0 k s.heap m (lone (b.atR a (it::k)) cs w) x s'
 | .call f args rc h,ans=>∀(jY :Array Value) (m:Mem) (w:World) (kind:CallKind) (cs0 cs:List Frame),
   LR m args jY.toList→WR P genv B w₀ h m w→KR m kind cs0 rc cs→
    ∃x rc' h',ans= .call x rc' h' ∧(callFunc f jY).run P w= .ok (.enter f jY) w∧Leaves P genv B w₀ f kind cs0 h m (lone (Frame.enter P f jY kind) cs w) x rc' h'
 | .unwind f mode s,ans=>∀(fr:Frame) (m:Mem) (w:World) (cs0 cs:List Frame),fr.fn=f→(∃fn,P.funcs[f]? =some fn)→FN m mode fr.mode→DL m s.defers fr.defers→TR m s.tmps fr.tmps→
   WR P genv B w₀ s.heap m w→KR m fr.kind cs0 s.rc cs→∃x rc' h',ans= .call x rc' h' ∧Leaves P genv B w₀ f fr.kind cs0 s.heap m (lone fr cs w) x rc' h'
 | .round l args h,ans=>∀(lb:Nat) (jY :Array Value) (m:Mem) (w:World) (c:Frame) (cs:List Frame),m.ρ l=some lb→LR m args jY.toList→WR P genv B w₀ h m w→
   ∃x h',ans= .call x .plain h' ∧∃f t as bd,(Instr.yield lb jY).run P w= .ok (.round lb f t as bd) w∧Mp P genv B w₀ c cs h m (lone (Frame.round lb f t as bd .normal) (c::cs) w) x h'
def sY (rec:Task→R Ans):Prop:=∀t ans,rec t= .ok ans→Bz P genv B w₀ t ans
end
variable {P:Program} {genv:Nat→Option (List AV)} {B:Nat} {w₀:World}
theorem uS.head {n:Nat} {b:Frame} {cs0:List Frame} {k:List Item} {h:aD} {m:Mem} {m0 m1:Machine} {x:Exit} {s:St} (hs:Steps P m0 m1) (L:uS P genv B w₀ n b cs0 k h m m1 x s):
  uS P genv B w₀ n b cs0 k h m m0 x s:=by
 obtain ⟨a',m',w',cs',fr,h1,h2⟩:=L
 exact ⟨a',m',w',cs',fr,hs.trans h1,h2⟩
theorem uS.ext {n:Nat} {b:Frame} {cs0:List Frame} {k:List Item} {h h1:aD} {m m1:Mem} {m0:Machine} {x:Exit} {s:St} (E:Ext h m h1 m1) (L:uS P genv B w₀ n b cs0 k h1 m1 m0 x s):
  uS P genv B w₀ n b cs0 k h m m0 x s:=by
 obtain ⟨a',m',w',cs',fr,h1,h2,h3,h4,h5,h6⟩:=L
 exact ⟨a',m',w',cs',fr,h1,h2,h3,h4,h5,E.trans h6⟩
theorem uS.then {n:Nat} {b:Frame} {cs0:List Frame} {k k1:List Item} {h:aD} {m:Mem} {m0:Machine} {x:Exit} {s1 s2:St} (L:uS P genv B w₀ n b cs0 k1 h m m0 .normal s1)
  (H:∀a1 m1 w1 cs1,SR m1 s1 a1 n→WR P genv B w₀ s1.heap m1 w1→KR m1 b.kind cs0 s1.rc cs1→m.Le m1→uS P genv B w₀ n b cs0 k s1.heap m1 (lone (b.atR a1 k1) cs1 w1) x s2):
  uS P genv B w₀ n b cs0 k h m m0 x s2:=by
 obtain ⟨a',m',w',cs',fr,h1,h2,h3,h4,h5,h6⟩:=L
 cases h2
 exact (uS.ext h6 (H a' m' w' cs' h3 h4 h5 h6.le)).head h1
theorem PU {ts:fN} {h:aD} {c:Call} {nx:jF} (e:opA ts h (lJ P genv (.defer c))= .ok nx):∃d,nx= .defer d:=by
 simp only [lJ] at e
 split at e
 ·simp only [opA,pL,mZ] at e
  split at e
  ·cases e;exact ⟨_,rfl⟩
  ·cases e
 ·cases e
section
variable {n i:Nat} {b:Frame} {a:Act} {k:List Item} {cs0 cs:List Frame} {w:World} {m:Mem} {ops:Array Oper} {o:Oper} {rest:List Nat} {fn:FuncId} {rd:Option Nat} {s:St}
theorem Fa (ho:ops[i]? =some o) (v:Value):(b.atR a (.inRegion ops (i::rest)::k)).finish v=b.atR (a.put o.dst v) (.inRegion ops rest::k):=by
 rw [Frame.finish_atR,ho];rfl
theorem SR.put (S:SR m s a n) {d:Option Nat} (hd:Ix n d=true) {x:AV} {v:Value} (hv:VR m x v) (h:aD):SR m ⟨mC d x s.tmps,s.defers,s.rc,h⟩ (a.put d v) n:=by
 have key:=S.tmps.put d (x:=x) (v:=v) (fun t e=>by subst e;exact Nat.lt_of_lt_of_le (by simpa [Ix,Nat.blt_eq] using hd) S.size) hv
 cases d with
 |none=>exact ⟨key,S.size,S.defers⟩
 |some d=>exact ⟨key,by simpa [Act.put] using S.size,S.defers⟩
theorem SR.mono {m m' :Mem} {s:St} {a:Act} {n:Nat} (h:m.Le m') (S:SR m s a n):SR m' s a n:=⟨S.tmps.mono h,S.size,S.defers.mono h⟩
theorem At (ho:ops[i]? =some o) (hd:Ix n o.dst=true) (S:SR m s a n) {m0:Machine} {m' :Mem} {w' :World} {cs' :List Frame} {x:AV} {v:Value} {h' :aD} (hv:VR m' x v)
  (W' :WR P genv B w₀ h' m' w') (K:KR m' b.kind cs0 s.rc cs') (E:Ext s.heap m h' m')
  (hs:Steps P m0 (lone ((b.atR a (.inRegion ops (i::rest)::k)).finish v) cs' w')):
  uS P genv B w₀ n b cs0 (.inRegion ops rest::k) s.heap m m0 .normal ⟨mC o.dst x s.tmps,s.defers,s.rc,h'⟩:=by
 rw [Fa ho] at hs
 exact ⟨_,m',w',cs',_,hs,rfl,(S.mono E.le).put hd hv h',W',K,E⟩
theorem FI {g:Option (Nat×Bool)} (hg:CZ ops o=some g) (T:TR m s.tmps a.tmps) {r:Bool} (e:iJ s.tmps g= .ok r):Region.wanted o (yielded ops a.tmps)=r:=by
 unfold CZ at hg
 unfold Region.wanted
 split at hg
 ·rename_i h0
  cases hg
  cases e
  simp [h0]
 ·rename_i j want h0
  split at hg
  ·rename_i t ht
   cases hg
   simp only [h0,yielded,ht,Option.bind_some]
   simp only [iJ] at e
   have hv:=T t
   have Db:∀u,a.tmps.getD t undef=u→u≠undef→a.tmps[t]? =some u:=fun u h1 h2=>by
    by_cases hlt:t<a.tmps.size
    ·have:a.tmps.getD t undef=a.tmps[t]:=by simp [hlt]
     rw [Array.getElem?_eq_getElem hlt,←this,h1]
    ·have:a.tmps.getD t undef=undef:=by simp [hlt]
     exact absurd (h1.symm.trans this) h2
   generalize cH s.tmps t=x at hv e
   generalize hu:a.tmps.getD t undef=u at hv
   split at e
   ·cases hv
    cases e
    rename_i b'
    rw [Db _ hu (by intro hh;cases hh)]
    cases b' <;>cases want<;>rfl
   ·cases e
   ·rename_i hn1 hn2
    cases e
    have hnb:∀c,u≠ .bool c:=fun c hc=>by
     subst hc
     cases hv with
     |bool=>exact hn1 _ rfl
     |unk=>exact hn2 rfl
    by_cases hlt:t<a.tmps.size
    ·have:a.tmps[t]? =some u:=by
      rw [Array.getElem?_eq_getElem hlt,←hu];simp [hlt]
     rw [this]
     cases u<;>first|rfl|exact absurd rfl (hnb _)
    ·rw [Array.getElem?_eq_none (Nat.le_of_not_lt hlt)];rfl
  ·cases hg
theorem wX (hop:b.roundOf=none∨∀c,o.op≠ .defer c):Oper.semAt b.roundOf a.eval o=execOp a.eval o:=by
 rcases hop with h|h
 ·rw [h];rfl
 ·exact Oper.semAt_eq _ _ _ h
theorem Gr (ho:ops[i]? =some o) (hw:Region.wanted o (yielded ops a.tmps)=true) (hop:b.roundOf=none∨∀c,o.op≠ .defer c) {v:Value} {w' :World}
  (hr:(execOp a.eval o).run P w= .ok (.value v) w'):
  step P (lone (b.atR a (.inRegion ops (i::rest)::k)) cs w)= .next (lone ((b.atR a (.inRegion ops (i::rest)::k)).finish v) cs w'):=
 step_lone_go (by rw [stepGR_op ho hw,wX hop];simp [stepG.apply,Sem.runT_eq,hr])
theorem Kg (ho:ops[i]? =some o) (hw:Region.wanted o (yielded ops a.tmps)=true) (hop:b.roundOf=none∨∀c,o.op≠ .defer c) {w' :World}
  (hr:(execOp a.eval o).run P w= .ok .skip w'):
  step P (lone (b.atR a (.inRegion ops (i::rest)::k)) cs w)= .next (lone ((b.atR a (.inRegion ops (i::rest)::k)).finish undef) cs w'):=
 step_lone_go (by rw [stepGR_op ho hw,wX hop];simp [stepG.apply,Sem.runT_eq,hr])
theorem IP (ho:ops[i]? =some o) (hw:Region.wanted o (yielded ops a.tmps)=true) (hop:b.roundOf=none∨∀c,o.op≠ .defer c) {v:Value} {w' :World}
  (hr:(execOp a.eval o).run P w= .halt (.panic v) w'):
  step P (lone (b.atR a (.inRegion ops (i::rest)::k)) cs w)= .next (lone {b.atR a (.inRegion ops (i::rest)::k) with mode:= .panicking [{v,recovered:=false}]} cs w'):=
 step_lone_go (by rw [stepGR_op ho hw,wX hop,←Frame.raise_atR];simp [stepG.apply,Sem.runT_eq,hr])
theorem IQ (ho:ops[i]? =some o) (hw:Region.wanted o (yielded ops a.tmps)=true) (hop:b.roundOf=none∨∀c,o.op≠ .defer c) {f:FuncId} {args:Array Value} {w' :World}
  (hr:(execOp a.eval o).run P w= .ok (.enter f args) w'):
  step P (lone (b.atR a (.inRegion ops (i::rest)::k)) cs w)= .next (lone (Frame.enter P f args .normal) (b.atR a (.inRegion ops (i::rest)::k)::cs) w'):=
 step_lone_go (by rw [stepGR_op ho hw,wX hop];simp [stepG.apply,Sem.runT_eq,hr,Frame.atR])
theorem IN (ho:ops[i]? =some o) (hw:Region.wanted o (yielded ops a.tmps)=true) (hop:b.roundOf=none∨∀c,o.op≠ .defer c) {l f:Nat} {t:Array Value} {as bd:Code} {w' :World}
  (hr:(execOp a.eval o).run P w= .ok (.round l f t as bd) w'):
  step P (lone (b.atR a (.inRegion ops (i::rest)::k)) cs w)= .next (lone (Frame.round l f t as bd .normal) (b.atR a (.inRegion ops (i::rest)::k)::cs) w'):=
 step_lone_go (by rw [stepGR_op ho hw,wX hop];simp [stepG.apply,Sem.runT_eq,hr,Frame.atR])
theorem IS (ho:ops[i]? =some o) (hw:Region.wanted o (yielded ops a.tmps)=true) (hop:b.roundOf=none) {d:Deferred} {w' :World}
  (hr:(execOp a.eval o).run P w= .ok (.defer d) w'):
  step P (lone (b.atR a (.inRegion ops (i::rest)::k)) cs w)= .next (lone (b.atR ({a with defers:=d::a.defers}.put o.dst undef) (.inRegion ops rest::k)) cs w'):=by
 have:({b.atR a (.inRegion ops (i::rest)::k) with defers:=d::a.defers}:Frame).finish undef=b.atR ({a with defers:=d::a.defers}.put o.dst undef) (.inRegion ops rest::k):=by
  have:=Frame.finish_atR b {a with defers:=d::a.defers} ops i rest k undef
  rw [ho] at this;exact this
 refine step_lone_go (by rw [stepGR_op ho hw,wX (.inl hop)];simp only [stepG.apply,Sem.runT_eq,hr,GStep.bare_after,if_true];exact congrArg (fun fr=>GStep.go {frame:=fr,callers:=cs,status:= .running,dying:=none} w') this)
theorem Aw (ho:ops[i]? =some o) (hw:Region.wanted o (yielded ops a.tmps)=true) (hop:b.roundOf=none) {w' :World} {v:Value} {cs' :List Frame}
  (hr:(execOp a.eval o).run P w= .ok .recover w')
  (ht:tryRecover (b.atR a (.inRegion ops (i::rest)::k)) cs=some (v,cs')∨(tryRecover (b.atR a (.inRegion ops (i::rest)::k)) cs=none∧v= .nilIface∧cs' =cs)):
  step P (lone (b.atR a (.inRegion ops (i::rest)::k)) cs w)= .next (lone ((b.atR a (.inRegion ops (i::rest)::k)).finish v) cs' w'):=by
 have hro:(b.atR a (.inRegion ops (i::rest)::k)).roundOf=none:=hop
 refine step_lone_go (by
  rw [stepGR_op ho hw,wX (.inl hop)]
  simp only [stepG.apply,Sem.runT_eq,hr,GStep.bare_after,if_true,hro]
  rcases ht with h|⟨h,rfl,rfl⟩<;>simp [h])
theorem Pf (ho:ops[i]? =some o) (hd:Ix n o.dst=true) (S:SR m s a n) (K:KR m b.kind cs0 s.rc cs) {m0:Machine} {x:Dw} {h' :aD}
  (Bk:Mp P genv B w₀ (b.atR a (.inRegion ops (i::rest)::k)) cs s.heap m m0 x h') {rc:RC} {y:Exit} {s' :St} {ao:lI} (had:ao.dst=o.dst) (e:called ao s (.call x rc h')= .ok (y,s')):
  uS P genv B w₀ n b cs0 (.inRegion ops rest::k) s.heap m m0 y s' :=by
 obtain ⟨m',w',fr,h1,h2,h3,h4⟩:=Bk
 cases x with
 |ret v=>
  obtain ⟨v',hv,rfl⟩:=h2
  cases e
  rw [had]
  exact At ho hd S hv h3 (K.mono h4.le) h4 h1
 |panic ch=>
  obtain ⟨ch',hc,rfl⟩:=h2
  cases e
  exact ⟨a,m',w',cs,_,h1,⟨_,ch',rfl,hc⟩,⟨(S.mono h4.le).tmps,S.size,(S.mono h4.le).defers⟩,h3,K.mono h4.le,h4⟩
theorem Ce {f:FuncId} {c:Frame} {h h' :aD} {m0:Machine} {x:Dw} {rc:RC} (L:Leaves P genv B w₀ f .normal (c::cs) h m m0 x rc h'):Mp P genv B w₀ c cs h m m0 x h' ∧rc= .plain:=by
 obtain ⟨m',w',cs',fr,h1,h2,h3,h4,⟨fn,h5⟩,h6,h7,h8,h9⟩:=L
 cases h7 with
 |plain _=>
  refine ⟨?_,rfl⟩
  cases x with
  |ret v=>
   obtain ⟨k1,fn',v',k2,k3,k4⟩:=h6
   exact ⟨m',w',_,h1.trans (.one (step_leave_returned ⟨k1,h4,h3,fn',by rw [h2];exact k2,k3⟩)),⟨v',k4,rfl⟩,h8,h9⟩
  |panic ch=>
   obtain ⟨ch',k1,k2⟩:=h6
   exact ⟨m',w',_,h1.trans (.one (step_leave_panicked ⟨k1,h4,fn,by rw [h2];exact h5⟩)),⟨ch',k2,rfl⟩,h8,h9⟩
 |ret e _=>cases e
 |pan e _=>cases e
theorem I7 {ao:lI} {y:Exit} {s' :St} (e:Bj rd ao s= .ok (y,s')):rd=none∧y= .normal∧
  ((s.rc= .ret∧s' =⟨mC ao.dst .uX s.tmps,s.defers,s.rc,s.heap⟩)∨
   (∃v Eh,s.rc= .pan ({v,recovered:=false}::Eh)∧s' =⟨mC ao.dst v s.tmps,s.defers,.pan ({v,recovered:=true}::Eh),s.heap⟩)∨
   (∃ch,s.rc= .pan ch∧(∀v Eh,ch≠{v,recovered:=false}::Eh)∧s' =⟨mC ao.dst .uX s.tmps,s.defers,s.rc,s.heap⟩)):=by
 obtain ⟨ts,ds,rc,hp⟩:=s
 cases rd with
 |some l=>cases rc<;>cases e
 |none=>
  cases rc with
  |plain=>cases e
  |ret=>cases e;exact ⟨rfl,rfl,.inl ⟨rfl,rfl⟩⟩
  |pan ch=>
   cases ch with
   |nil=>cases e;exact ⟨rfl,rfl,.inr (.inr ⟨[],rfl,(fun _ _ hh=>by cases hh),rfl⟩)⟩
   |cons p ps=>
    obtain ⟨v,r⟩:=p
    cases r with
    |false=>cases e;exact ⟨rfl,rfl,.inr (.inl ⟨v,ps,rfl,rfl⟩)⟩
    |true=>cases e;exact ⟨rfl,rfl,.inr (.inr ⟨_,rfl,(fun _ _ hh=>by cases hh),rfl⟩)⟩
theorem Ax {rec:Task→R Ans} (uB:sY P genv B w₀ rec) (ho:ops[i]? =some o) (F:FR m fn rd b) (S:SR m s a n) (W:WR P genv B w₀ s.heap m w) (K:KR m b.kind cs0 s.rc cs)
  {y:Exit} {s' :St} (e:dJ rec rd (mV P genv n ops o) s= .ok (y,s')):
  uS P genv B w₀ n b cs0 (.inRegion ops rest::k) s.heap m (lone (b.atR a (.inRegion ops (i::rest)::k)) cs w) y s' :=by
 unfold mV at e
 split at e
 ·rename_i g hg hd
  unfold dJ at e
  obtain ⟨r,hr,e⟩:=R.aM e
  have hw:=FI hg S.tmps hr
  cases r with
  |false=>
   cases e
   have hs:=stepR_op_skip (P:=P) (b:=b) (a:=a) (k:=k) (cs:=cs) (w:=w) (ops:=ops) (i:=i) (rest:=rest) (by simp [ho,hw])
   rw [←Frame.finish_atR] at hs
   exact At ho hd S (.tup [] [] rfl (fun i c v hc=>by simp at hc)) W K (.refl _ _) (.one hs)
  |true=>
   obtain ⟨nx,hnx,e⟩:=R.aM e
   have N:=RN W S.tmps o hnx
   have hop:rd=none∨∀c,o.op≠ .defer c:=by
    cases rd with
    |none=>exact .inl rfl
    |some l=>
     refine .inr fun c hc=> ?_
     rw [hc] at hnx
     obtain ⟨d,rfl⟩:=PU (P:=P) hnx
     cases e
   have Np :b.roundOf=none∨∀c,o.op≠ .defer c:=by
    rcases hop with h|h
    ·subst h
     have:=F.rd
     cases hb:b.roundOf with
     |none=>exact .inl rfl
     |some l=>rw [hb] at this;exact this.elim
    ·exact .inr h
   generalize BM:(execOp a.eval o).run P w=res at N
   cases N with
   |val E W' hv=>
    cases e
    exact At ho hd S hv W' (K.mono E.le) E (.one (Gr ho hw Np BM))
   |skip E W' =>
    cases e
    exact At ho hd S (.tup [] [] rfl (fun i c v hc=>by simp at hc)) W' (K.mono E.le) E (.one (Kg ho hw Np BM))
   | @enter f args jY ha=>
    obtain ⟨ans,BO,e⟩:=R.aM e
    obtain ⟨x,rc',h',rfl,hcf,L⟩:=uB _ _ BO jY m w .normal (b.atR a (.inRegion ops (i::rest)::k)::cs) _ ha W (.plain rfl)
    obtain ⟨Bk,_⟩:=Ce L
    exact (Pf ho hd S K Bk rfl e).head (.one (IQ ho hw Np (BM.trans hcf)))
   | @round l lb args jY hl ha=>
    obtain ⟨ans,BO,e⟩:=R.aM e
    obtain ⟨x,h',rfl,f,t,as,bd,hy,Bk⟩:=uB _ _ BO lb jY m w (b.atR a (.inRegion ops (i::rest)::k)) cs hl ha W
    exact (Pf ho hd S K Bk rfl e).head (.one (IN ho hw Np (BM.trans hy)))
   | @defer d d' hdd=>
    cases rd with
    |some l=>cases e
    |none=>
     have hb:b.roundOf=none:=by
      have:=F.rd
      cases hb:b.roundOf with
      |none=>rfl
      |some l=>rw [hb] at this;exact this.elim
     cases e
     have S' :SR m ⟨s.tmps,d::s.defers,s.rc,s.heap⟩ {a with defers:=d' ::a.defers} n:=⟨S.tmps,S.size,.cons hdd S.defers⟩
     exact ⟨_,m,w,cs,_,.one (IS ho hw hb BM),rfl,S'.put hd (.tup [] [] rfl (fun i c v hc=>by simp at hc)) s.heap,W,K,.refl _ _⟩
   |recover=>
    have hb:rd=none→b.roundOf=none:=fun h=>by
     have:=F.rd
     subst h
     cases hb:b.roundOf with
     |none=>rfl
     |some l=>rw [hb] at this;exact this.elim
    rcases I7 e with ⟨rfl,rfl,⟨hrc,rfl⟩|⟨v,Eh,hrc,rfl⟩|⟨ch,hrc,hnr,rfl⟩⟩
    ·have K' :=K
     rw [hrc] at K'
     cases K' with
     |ret hk hm=>
      refine At ho hd S .uX W K (.refl _ _) (.one (Aw ho hw (hb rfl) BM (.inr ⟨?_,rfl,rfl⟩)))
      simp [tryRecover,Frame.atR,hk,hm]
    ·rw [hrc] at K
     cases K with
     | @pan c Rw _ ch' hk hc=>
      cases hc with
      | @cons _ en _ es hv FF hgo hch=>
       obtain ⟨ev,er,eg⟩:=en
       simp only at hv FF hgo
       subst FF hgo
       have st:=Aw (P:=P) (k:=k) (rest:=rest) (cs:={c with mode:= .panicking ({v:=ev,recovered:=false}::es)}::Rw) (v:=ev)
        (cs' :={c with mode:= .panicking ({v:=ev,recovered:=true}::es)}::Rw) ho hw (hb rfl) BM (.inl (by simp [tryRecover,Frame.atR,hk]))
       refine ⟨_,m,w,_,_,.one st,Fa ho ev, ?_,W, ?_,.refl _ _⟩
       ·have:=S.put hd hv s.heap
        exact ⟨this.tmps,this.size,this.defers⟩
       ·exact .pan hk (.cons hv rfl rfl hch)
    ·have K' :=K
     rw [hrc] at K'
     cases K' with
     | @pan c Rw _ ch' hk hc=>
      refine At ho hd S .uX W K (.refl _ _) (.one (Aw ho hw (hb rfl) BM (.inr ⟨?_,rfl,rfl⟩)))
      cases hc with
      |nil=>simp [tryRecover,Frame.atR,hk]
      | @cons p en ps es hv FF hgo hch=>
       obtain ⟨pv,pr⟩:=p
       obtain ⟨ev,er,eg⟩:=en
       simp only at hv FF hgo
       subst FF hgo
       cases er with
       |true=>simp [tryRecover,Frame.atR,hk]
       |false=>exact absurd rfl (hnr _ _)
   |panic hv=>
    cases e
    exact ⟨a,m,w,cs,_,.one (IP ho hw Np BM),⟨_,_,rfl,.cons hv rfl rfl .nil⟩,S,W,K,.refl _ _⟩
 ·cases hw:iJ s.tmps none with
  |ok r=>
   unfold dJ at e
   obtain ⟨r,hr,e⟩:=R.aM e
   cases hr
   cases e
  |no=>cases hw
end
end Go.Am
namespace Go.Am
open Go.RowKit
variable {P:Program} {genv:Nat→Option (List AV)} {B:Nat} {w₀:World}
section
variable {n:Nat} {b:Frame} {a:Act} {k:List Item} {cs0 cs:List Frame} {w:World} {m:Mem} {fn:FuncId} {rd:Option Nat} {s:St}
theorem Kh {c:Code}:step P (lone (b.atR a (.code (.scope c)::k)) cs w)= .next (lone (b.atR a (.code c:: .inScope c::k)) cs w):=
 step_lone_go (by simp [stepG,stepG.exec,Frame.atR])
theorem HL {c:Code}:step P (lone (b.atR a (.inScope c::k)) cs w)= .next (lone (b.atR a k) cs w):=
 step_lone_go (by simp [stepG,stepG.exec,Frame.atR])
def Da (P:Program) (genv:Nat→Option (List AV)) (B:Nat) (w₀:World) (rec:Task→R Ans):Prop:=
 ∀(n:Nat) (ops:Array Oper) (id:Nat) (kp:Nat→Option (List Nat)) (fn:FuncId) (rd:Option Nat) (s:St) (m:Mem) (w:World) (b:Frame) (a:Act) (k:List Item) (cs0 cs:List Frame) (ans:Ans),
  FR m fn rd b→SR m s a n→WR P genv B w₀ s.heap m w→KR m b.kind cs0 s.rc cs→cG rec fn rd (comp P genv n kp (.region id ops true)) s= .ok ans→
   ∃x s',ans= .code x s' ∧uS P genv B w₀ n b cs0 k s.heap m (lone (b.atR a (.code (.region id ops true)::k)) cs w) x s'
theorem uS.pass {h:aD} {m0:Machine} {k1:List Item} {x:Exit} {s1:St} (L:uS P genv B w₀ n b cs0 k1 h m m0 x s1) (hx:x≠ .normal)
  (hk:∀id,x= .exit id→exitTo id k1=exitTo id k):uS P genv B w₀ n b cs0 k h m m0 x s1:=by
 obtain ⟨a',m',w',cs',fr,h1,h2,h3⟩:=L
 refine ⟨a',m',w',cs',fr,h1, ?_,h3⟩
 cases x with
 |normal=>exact absurd rfl hx
 |exit id=>
  obtain ⟨k2,e1,e2⟩:=h2
  exact ⟨k2,e1,e2.trans (hk id rfl)⟩
 |ret=>exact h2
 |panic ch=>exact h2
def tS (P:Program) (genv:Nat→Option (List AV)) (B:Nat) (w₀:World) (n:Nat) (b:Frame) (cs0:List Frame) (k:List Item) (h:aD) (m:Mem) (m0:Machine) (ans:Ans):Prop:=
 ∃x s',ans= .code x s' ∧uS P genv B w₀ n b cs0 k h m m0 x s'
theorem uS.VP {h:aD} {m0:Machine} {k1:List Item} {s1:St} {ans:Ans} (L:uS P genv B w₀ n b cs0 k1 h m m0 .normal s1)
  (H:∀a1 m1 w1 cs1,SR m1 s1 a1 n→WR P genv B w₀ s1.heap m1 w1→KR m1 b.kind cs0 s1.rc cs1→m.Le m1→tS P genv B w₀ n b cs0 k s1.heap m1 (lone (b.atR a1 k1) cs1 w1) ans):
  tS P genv B w₀ n b cs0 k h m m0 ans:=by
 obtain ⟨a',m',w',cs',fr,h1,h2,h3,h4,h5,h6⟩:=L
 cases h2
 obtain ⟨x,s',e,L⟩:=H a' m' w' cs' h3 h4 h5 h6.le
 exact ⟨x,s',e,(uS.ext h6 L).head h1⟩
theorem tS.head {h:aD} {m0 m1:Machine} {ans:Ans} (hs:Steps P m0 m1) (L:tS P genv B w₀ n b cs0 k h m m1 ans):tS P genv B w₀ n b cs0 k h m m0 ans:=
 let ⟨x,s',e,L⟩:=L
 ⟨x,s',e,L.head hs⟩
theorem uS.Ou {h:aD} {m0:Machine} {k1:List Item} {x:Exit} {s1:St} (L:uS P genv B w₀ n b cs0 k1 h m m0 x s1) (hx:x≠ .normal)
  (hk:∀id,x= .exit id→exitTo id k1=exitTo id k):tS P genv B w₀ n b cs0 k h m m0 (.code x s1):=⟨x,s1,rfl,L.pass hx hk⟩
theorem zQ {s:St} (S:SR m s a n) (W:WR P genv B w₀ s.heap m w) (K:KR m b.kind cs0 s.rc cs) {m0:Machine} (hs:Steps P m0 (lone (b.atR a k) cs w)):
  tS P genv B w₀ n b cs0 k s.heap m m0 (.code .normal s):=⟨.normal,s,rfl,a,m,w,cs,_,hs,rfl,S,W,K,.refl _ _⟩
theorem uS.Pe {h:aD} {m0:Machine} {k1:List Item} {x:Exit} {s1:St} (L:uS P genv B w₀ n b cs0 k1 h m m0 x s1) {ans:Ans}
  (hk:∀id,x= .exit id→exitTo id k1=exitTo id k)
  (H:x= .normal→∀a1 m1 w1 cs1,SR m1 s1 a1 n→WR P genv B w₀ s1.heap m1 w1→KR m1 b.kind cs0 s1.rc cs1→m.Le m1→tS P genv B w₀ n b cs0 k s1.heap m1 (lone (b.atR a1 k1) cs1 w1) ans)
  (hn:x≠ .normal→ans= .code x s1):tS P genv B w₀ n b cs0 k h m m0 ans:=by
 by_cases hx:x= .normal
 ·subst hx;exact L.VP (H rfl)
 ·rw [hn hx];exact L.Ou hx hk
theorem MS {rec:Task→R Ans} (uB:sY P genv B w₀ rec) (ops:Array Oper):∀(j i:Nat),i+j=ops.size→∀{s:St} {m:Mem} {w:World} {a:Act} {cs:List Frame} {ans:Ans},
  FR m fn rd b→SR m s a n→WR P genv B w₀ s.heap m w→KR m b.kind cs0 s.rc cs→
  PO rec rd ((ops.toList.drop i).map (mV P genv n ops)) s= .ok ans→
   tS P genv B w₀ n b cs0 k s.heap m (lone (b.atR a (.inRegion ops (List.range' i j)::k)) cs w) ans:=by
 intro j
 induction j with
 |zero=>
  intro i hi s m w a cs ans F S W K e
  have:ops.toList.drop i=[]:=List.drop_eq_nil_of_le (by simp;omega)
  rw [this] at e
  cases e
  exact zQ S W K (.one stepR_region_end)
 |succ j ih=>
  intro i hi s m w a cs ans F S W K e
  have hlt:i<ops.size:=om
  have hd:ops.toList.drop i=ops[i]::ops.toList.drop (i+1):=by
   rw [List.drop_eq_getElem_cons (by simpa using hlt)];simp
  rw [hd] at e
  obtain ⟨⟨y,s1⟩,hy,e⟩:=R.aM e
  have L:=Ax (k:=k) (rest:=List.range' (i+1) j) (ops:=ops) uB (i:=i) (o:=ops[i]) (by simp [hlt]) F S W K hy
  rw [List.range'_succ]
  refine L.Pe (fun _ _=>rfl) (fun hx a1 m1 w1 cs1 S1 W1 K1 hle=> ?_) (fun hx=> ?_)
  ·subst hx
   exact ih (i+1) om (F.mono hle) S1 W1 K1 e
  ·cases y with
   |normal=>exact absurd rfl hx
   |_=>cases e;rfl
theorem Em {h:aD} (W:WR P genv B w₀ h m w) {id lb:Nat} {r:tM} (hr:m.ρ id=some lb) (hg:jG h id= .ok r):
  ∃L:Loop,w.heap[lb]? =some (.loop L)∧HC P genv m r L∧h.get id=some (.loop r):=by
 obtain ⟨o,r',h1,h2,h3⟩:=W.obj id lb hr
 unfold jG at hg
 rw [h1] at hg
 split at hg
 ·rename_i r0 e0
  cases hg
  cases e0
  cases h3 with
  |loop _ L hL=>exact ⟨L,h2,hL,h1⟩
 ·cases hg
theorem xM {lb:Nat} {L:Loop} (h:w.heap[lb]? =some (.loop L)):(Instr.getLoop lb).run P w= .ok L w:=by
 simp [Instr.getLoop,getObj,Sem.run,h]
theorem BI {lb:Nat} {o:Obj} {L:Loop} (h:w.heap[lb]? =some (.loop L)):(setObj lb o).run P w= .ok () {w with heap:=w.heap.setIfInBounds lb o}:=by
 simp [setObj,Sem.run,h]
theorem Kv {lb:Nat} {L:Loop} (h:w.heap[lb]? =some (.loop L)) (hs:L.state≠ .busy):
  (Instr.endLoop lb).run P w= .ok L.pending {w with heap:=w.heap.setIfInBounds lb (.loop {L with state:= .exhausted})}:=by
 have:(L.state==LoopState.busy)=false:=by
  cases hL:L.state<;>first|rfl|exact absurd hL hs
 simp [Instr.endLoop,Sem.run_bind,xM h,BI h,hs]
theorem DA {lb:Nat} {j:Option Code} {w' :World} (h:(Instr.endLoop lb).run P w= .ok j w'):
  step P (lone (b.atR a (.endRangeFunc lb::k)) cs w)= .next (lone (b.atR a ((j.map Item.code).toList++k)) cs w'):=
 step_lone_go (by simp [stepG,stepG.exec,Frame.atR,Sem.runT_eq,h])
theorem WR.F2 {h:aD} (W:WR P genv B w₀ h m w) {id lb:Nat} {r:tM} {L:Loop} (hr:m.ρ id=some lb) (hL:w.heap[lb]? =some (.loop L)) (hg:h.get id=some (.loop r)) {r' :tM} {L' :Loop} (hR:HC P genv m r' L'):
  WR P genv B w₀ (h.set id (.loop r')) m {w with heap:=w.heap.setIfInBounds lb (.loop L')}:=
 W.setObj hr hL (fun n e=>by rw [hg] at e;cases e) (.loop _ _ hR) (fun c e f hh=>by cases hh)
theorem Wp {h:aD} (W:WR P genv B w₀ h m w) {l lb:Nat} {r:tM} (hl:m.ρ l=some lb) (hr:jG h l= .ok r) (hne:r.state≠ .busy):
  ∃w',(Instr.endLoop lb).run P w= .ok (r.pending.map Cs) w' ∧WR P genv B w₀ (h.set l (.loop {r with state:= .exhausted})) m w' :=by
 obtain ⟨L,g1,g2,g3⟩:=Em W hl hr
 have Vl:=Kv (P:=P) g1 (by rw [g2.state];exact hne)
 rw [g2.pending] at Vl
 exact ⟨_,Vl,W.F2 hl g1 g3 ⟨rfl,rfl,g2.fn,g2.tmps,g2.params,g2.code,g2.defers⟩⟩
theorem Rv {h:aD} {m2:Mem} {ds:List vM} {mk:List Deferred} {l lb:Nat} {m0:Machine} {x:Dw} {rc:RC} {h2 h' :aD} (S:SR m s a n) (K:KR m b.kind cs0 s.rc cs) (E:Ext h m h2 m2)
  (hds:DL m2 ds mk) (hl:m2.ρ l=some lb)
  (Bk:Mp P genv B w₀ (b.atR ⟨a.tmps,mk⟩ (.inRangeFunc lb::k)) cs h2 m2 m0 x h') {ans:Ans} {h0:aD} (e:tD ⟨s.tmps,ds,s.rc,h0⟩ l (.call x rc h')= .ok ans):
  tS P genv B w₀ n b cs0 k h m m0 ans:=by
 obtain ⟨m3,w3,fr,q1,q2,W3,E3⟩:=Bk
 have S3:∀hp,SR m3 ⟨s.tmps,ds,s.rc,hp⟩ ⟨a.tmps,mk⟩ n:=fun hp=>⟨S.tmps.mono (E.le.trans E3.le),S.size,hds.mono E3.le⟩
 have K3:=K.mono (E.le.trans E3.le)
 cases x with
 |panic ch=>
  obtain ⟨ch',hc,rfl⟩:=q2
  cases e
  exact ⟨_,_,rfl,⟨a.tmps,mk⟩,m3,w3,cs,_,q1,⟨_,ch',rfl,hc⟩,S3 _,W3,K3,E.trans E3⟩
 |ret v=>
  obtain ⟨v',_,rfl⟩:=q2
  simp only [tD] at e
  obtain ⟨r,hr,e⟩:=R.aM e
  have hl3:=E3.le.ρ _ _ hl
  split at e
  ·cases e
  ·rename_i hne
   obtain ⟨w4,Vl,W4⟩:=Wp W3 hl3 hr (fun hh=>hne hh)
   have hs:=q1.trans (.one (DA (b:=b) (a:=⟨a.tmps,mk⟩) (k:=k) (cs:=cs) Vl))
   have E4:Ext h m (h'.set l (.loop {r with state:= .exhausted})) m3:=(E.trans E3).trans (Ext.heap m3 rfl)
   unfold wE at e
   split at e
   ·rename_i hp0
    rw [hp0] at hs
    cases e
    exact ⟨.normal,_,rfl,⟨a.tmps,mk⟩,m3,w4,cs,_,hs,rfl,S3 _,W4,K3,E4⟩
   ·rename_i hp0
    rw [hp0] at hs
    cases e
    exact ⟨.ret,_,rfl,⟨a.tmps,mk⟩,m3,w4,cs,_,hs,⟨k,rfl⟩,S3 _,W4,K3,E4⟩
   ·rename_i id hp0
    rw [hp0] at hs
    cases e
    exact ⟨.exit id,_,rfl,⟨a.tmps,mk⟩,m3,w4,cs,_,hs,⟨k,rfl,rfl⟩,S3 _,W4,K3,E4⟩
theorem Ru {rec:Task→R Ans} (uB:sY P genv B w₀ rec) {f:Operand} {params:Array Tmp} {assign body:Code} {kp:Nat→Option (List Nat)} {ans:Ans}
  (F:FR m fn rd b) (S:SR m s a n) (W:WR P genv B w₀ s.heap m w) (K:KR m b.kind cs0 s.rc cs) (e:cG rec fn rd (comp P genv n kp (.rangeFunc f params assign body)) s= .ok ans):
  tS P genv B w₀ n b cs0 k s.heap m (lone (b.atR a (.code (.rangeFunc f params assign body)::k)) cs w) ans:=by
 simp only [comp] at e
 split at e
 ·rename_i hp
  replace e:rfA rec fn rd (opd genv f) params.toList (comp P genv n kp assign) (comp P genv n kp body) s= .ok ans:=e
  obtain ⟨⟨d,ds,h1⟩,h0,e⟩:=R.aM e
  have key:∃db m1 w1 mark,(Instr.enterLoop b.fn a.tmps params assign body b.roundOf).run P w= .ok (w1.heap.size,mark) (w1.alloc (.loop {state:= .ready,pending:=none,fn:=b.fn,tmps:=a.tmps,params,assign,body,defers:=db}))∧
    WR P genv B w₀ h1 m1 w1∧Ext s.heap m h1 m1∧m1.ρ d=some db∧DL m1 ds (mark++a.defers):=by
   cases rd with
   |none=>
    have hb:b.roundOf=none:=by
     have:=F.rd
     cases hb:b.roundOf with
     |none=>rfl
     |some l=>rw [hb] at this;exact this.elim
    cases h0
    refine ⟨w.heap.size,m.box s.heap.next w.heap.size,w.alloc (.deferred (some [])),[{target:= .collected w.heap.size,args:= #[]}], ?_,W.BK (.deferred (some [])) _ (.deferred [] [] .nil),rZ W _,ρHz _ _ _,.cons (.collected _ _ (ρHz _ _ _)) (S.defers.mono (rZ W (.deferred (some []))).le)⟩
    simp [Instr.enterLoop,hb,Sem.run_bind,run_newObj]
   |some l=>
    obtain ⟨lb,hb,hl⟩:∃lb,b.roundOf=some lb∧m.ρ l=some lb:=by
     have:=F.rd
     cases hb:b.roundOf with
     |none=>rw [hb] at this;exact this.elim
     |some lb=>rw [hb] at this;exact ⟨lb,rfl,this⟩
    obtain ⟨r,hr,h0⟩:=R.aM h0
    cases h0
    obtain ⟨L,k1,k2,k3⟩:=Em W hl hr
    refine ⟨L.defers,m,w,[], ?_,W,.refl _ _,k2.defers,S.defers⟩
    simp [Instr.enterLoop,hb,Sem.run_bind,run_newObj,xM k1]
  obtain ⟨db,m1,w1,mark,S7,W1,E1,hd,hds⟩:=key
  have hLR:HC P genv (m1.box h1.next w1.heap.size) ⟨.ready,none,fn,s.tmps,params.toList,comp P genv n kp assign,comp P genv n kp body,d⟩
    {state:= .ready,pending:=none,fn:=b.fn,tmps:=a.tmps,params,assign,body,defers:=db}:=by
   have E2:=rZ W1 (AO.loop ⟨.ready,none,fn,s.tmps,params.toList,comp P genv n kp assign,comp P genv n kp body,d⟩)
   refine ⟨rfl,rfl,F.fn,S.tmps.mono (E1.le.trans E2.le),rfl,⟨n,S.size, ?_,⟨kp,rfl⟩,⟨kp,rfl⟩⟩,E2.le.ρ _ _ hd⟩
   intro p hpm
   have:=List.all_eq_true.1 hp p hpm
   simpa [Nat.blt_eq] using this
  have W2:=W1.BK (AO.loop ⟨.ready,none,fn,s.tmps,params.toList,comp P genv n kp assign,comp P genv n kp body,d⟩) (.loop {state:= .ready,pending:=none,fn:=b.fn,tmps:=a.tmps,params,assign,body,defers:=db}) (.loop _ _ hLR)
  have E2:=E1.trans (rZ W1 (AO.loop ⟨.ready,none,fn,s.tmps,params.toList,comp P genv n kp assign,comp P genv n kp body,d⟩))
  generalize hm2:m1.box h1.next w1.heap.size=m2 at hLR W2 E2
  have hl2:m2.ρ h1.next=some w1.heap.size:=by rw [←hm2];exact ρHz _ _ _
  generalize hw2:w1.alloc (.loop {state:= .ready,pending:=none,fn:=b.fn,tmps:=a.tmps,params,assign,body,defers:=db})=w2 at S7 W2
  have hds2:DL m2 ds (mark++a.defers):=hds.mono (by rw [←hm2];exact (rZ W1 (.deferred none)).le)
  generalize hlb:w1.heap.size=lb at S7 hl2
  have hf:=eR W2 (S.tmps.mono E2.le) (a:=a) f
  simp only [yD] at e
  generalize ev s.tmps (opd genv f)=y at hf e
  split at e
  ·rename_i g first capt
   obtain ⟨N7,YP,e⟩:=R.aM e
   obtain ⟨fs,gs,hev,hl,hl'⟩:=Nx hf
   have Cc:LR m2 (first++(AV.yield h1.next::capt)) (fs++(Value.func (.yield lb) #[] #[]::gs)):=hl.append (.cons (.yield _ _ hl2) hl')
   obtain ⟨x,rc',h',rfl,hcf,L⟩:=uB _ _ YP (fs++(Value.func (.yield lb) #[] #[]::gs)).toArray m2 w2 .normal (b.atR ⟨a.tmps,mark++a.defers⟩ (.inRangeFunc lb::k)::cs) _ (by simpa using Cc) W2 (.plain rfl)
   obtain ⟨⟨m3,w3,fr,q1,q2,W3,E3⟩,_⟩:=Ce L
   have Xa:step P (lone (b.atR a (.code (.rangeFunc f params assign body)::k)) cs w)=
     .next (lone (Frame.enter P g (fs++(Value.func (.yield lb) #[] #[]::gs)).toArray .normal) (b.atR ⟨a.tmps,mark++a.defers⟩ (.inRangeFunc lb::k)::cs) w2):=by
    refine step_lone_go ?_
    have W9 :=congrFun (Frame.eval_atR b ⟨a.tmps,mark++a.defers⟩ (.inRangeFunc lb::k)) f
    have YG :(Act.mk a.tmps (mark++a.defers)).eval f= .func (.func g) fs.toArray gs.toArray:=by
     rw [←hev];cases f<;>rfl
    rw [YG] at W9
    have hc:(Frame.eval (b.atR ⟨a.tmps,mark++a.defers⟩ (.inRangeFunc lb::k))) (.const (.func (.yield lb) #[] #[]))= .func (.yield lb) #[] #[]:=rfl
    simp only [Frame.atR] at W9 hc
    have hargeq:(#[]++fs.toArray++ #[Value.func (.yield lb) #[] #[]]++gs.toArray:Array Value)=(fs++(Value.func (.yield lb) #[] #[]::gs)).toArray:=by apply Array.ext';simp
    simp [stepG,stepG.exec,stepG.apply,Frame.atR,Sem.runT_eq,S7,resolve,W9,hc,Deferred.ofValue,invoke,Sem.run_bind,hcf]
    try simp_all
   exact (Rv S K E2 hds2 hl2 ⟨m3,w3,fr,q1,q2,W3,E3⟩ e).head (.one Xa)
  ·cases e
 ·cases e
theorem NL {rec:Task→R Ans} (uB:sY P genv B w₀ rec) (hD:Da P genv B w₀ rec) (n:Nat) (b:Frame) (cs0:List Frame) (fn:FuncId) (rd:Option Nat) (kp:Nat→Option (List Nat)) (code:Code):
  ∀{it:Item} {s:St} {m:Mem} {w:World} {a:Act} {k:List Item} {cs:List Frame} {ans:Ans},Ob code it→FR m fn rd b→SR m s a n→WR P genv B w₀ s.heap m w→KR m b.kind cs0 s.rc cs→
   cG rec fn rd (comp P genv n kp code) s= .ok ans→tS P genv B w₀ n b cs0 k s.heap m (lone (b.atR a (it::k)) cs w) ans:=by
 have plain:∀{code:Code} {it:Item},Ob code it→(∀c,code≠ .loop c)→it= .code code:=fun h hn=>by
  rcases h with h|⟨c,h,_⟩
  ·exact h
  ·exact absurd h (hn c)
 induction code with
 |skip=>
  intro it s m w a k cs ans hit F S W K e
  cases plain hit (by simp)
  cases e
  exact zQ S W K (.one stepR_skip)
 |label l=>
  intro it s m w a k cs ans hit F S W K e
  cases plain hit (by simp)
  cases e
  exact zQ S W K (.one stepR_label)
 |goto l=>intro it s m w a k cs ans hit F S W K e;cases e
 |refuse why=>intro it s m w a k cs ans hit F S W K e;cases e
 |ret=>
  intro it s m w a k cs ans hit F S W K e
  cases plain hit (by simp)
  cases e
  exact ⟨_,s,rfl,a,m,w,cs,_,.refl _ _,⟨k,rfl⟩,S,W,K,.refl _ _⟩
 |exit id=>
  intro it s m w a k cs ans hit F S W K e
  cases plain hit (by simp)
  cases e
  exact ⟨_,s,rfl,a,m,w,cs,_,.refl _ _,⟨k,rfl,rfl⟩,S,W,K,.refl _ _⟩
 |scope body ih=>
  intro it s m w a k cs ans hit F S W K e
  cases plain hit (by simp)
  obtain ⟨x,s1,rfl,L⟩:=ih (k:= .inScope body::k) (.inl rfl) F S W K e
  refine tS.head (.one Kh) (L.Pe (fun _ _=>rfl) (fun hx a1 m1 w1 cs1 S1 W1 K1 _=> ?_) (fun _=>rfl))
  subst hx
  exact zQ S1 W1 K1 (.one HL)
 |seq x y ihx ihy=>
  intro it s m w a k cs ans hit F S W K e
  cases plain hit (by simp)
  obtain ⟨N7,h1,e⟩:=R.aM e
  obtain ⟨x',s1,rfl,L⟩:=ihx (k:= .code y::k) (.inl rfl) F S W K h1
  refine tS.head (.one stepR_seq) (L.Pe (fun _ _=>rfl) (fun hx a1 m1 w1 cs1 S1 W1 K1 hle=> ?_) (fun hx=> ?_))
  ·subst hx
   exact ihy (.inl rfl) (F.mono hle) S1 W1 K1 e
  ·cases x' with
   |normal=>exact absurd rfl hx
   |_=>cases e;rfl
 |cond c x y ihx ihy=>
  intro it s m w a k cs ans hit F S W K e
  cases plain hit (by simp)
  replace e:mH (cG rec fn rd (comp P genv n kp x)) (cG rec fn rd (comp P genv n kp y)) s (ev s.tmps (opd genv c))= .ok ans:=e
  have hc:=eR W S.tmps c
  generalize ev s.tmps (opd genv c)=v at hc e
  unfold mH at e
  generalize hu:a.eval c=u at hc
  split at e
  ·cases hc
   exact tS.head (.one (stepR_cond hu)) (ihx (.inl rfl) F S W K e)
  ·cases hc
   exact tS.head (.one (stepR_cond hu)) (ihy (.inl rfl) F S W K e)
  ·cases e
 |block id body ih=>
  intro it s m w a k cs ans hit F S W K e
  cases plain hit (by simp)
  obtain ⟨N7,h1,e2⟩:=R.aM e
  clear e
  obtain ⟨x',s1,rfl,L⟩:=ih (k:= .inBlock id::k) (.inl rfl) F S W K h1
  refine tS.head (.one stepR_block) ?_
  cases x' with
  |normal=>
   cases e2
   exact L.VP fun a1 m1 w1 cs1 S1 W1 K1 hle=>zQ S1 W1 K1 (.one stepR_inBlock)
  |exit i=>
   simp only [eE] at e2
   split at e2
   ·rename_i hi
    have hi:i=id:=Nat.eq_of_beq_eq_true hi
    subst hi
    cases e2
    obtain ⟨a1,m1,w1,cs1,fr,h1,⟨k1,rfl,hk⟩,h3,h4,h5,h6⟩:=L
    refine ⟨.normal,s1,rfl,a1,m1,w1,cs1,_,h1.trans (.one (stepR_exit (hk.trans ?_))),rfl,h3,h4,h5,h6⟩
    simp [exitTo]
   ·rename_i hi
    cases e2
    refine L.Ou (by simp) (fun j hj=> ?_)
    cases hj
    have:¬id=i:=fun hh=>by subst hh;simp at hi
    simp [exitTo,this]
  |ret=>cases e2;exact L.Ou (by simp) (by simp)
  |panic ch=>cases e2;exact L.Ou (by simp) (by simp)
 |loop body ih=>
  intro it s m w a k cs ans hit F S W K e
  obtain ⟨N7,h1,e⟩:=R.aM e
  have WT:Steps P (lone (b.atR a (it::k)) cs w) (lone (b.atR a (.code body:: .inLoop body::k)) cs w):=by
   rcases hit with rfl|⟨c,hc,rfl⟩
   ·exact .one stepR_loop
   ·cases hc;exact .one stepR_inLoop
  obtain ⟨x',s1,rfl,L⟩:=ih (k:= .inLoop body::k) (.inl rfl) F S W K h1
  refine tS.head WT (L.Pe (fun _ _=>rfl) (fun hx a1 m1 w1 cs1 S1 W1 K1 hle=> ?_) (fun hx=> ?_))
  ·subst hx
   exact uB _ _ e n (.loop body) (.inLoop body) m1 w1 b a1 k cs0 cs1 ⟨kp,rfl⟩ (.inr ⟨body,rfl,rfl⟩) (F.mono hle) S1 W1 K1
  ·cases x' with
   |normal=>exact absurd rfl hx
   |_=>cases e;rfl
 |rangeFunc f params assign body _ _=>
  intro it s m w a k cs ans hit F S W K e
  cases plain hit (by simp)
  exact Ru uB F S W K e
 |region id ops d=>
  intro it s m w a k cs ans hit F S W K e
  cases plain hit (by simp)
  cases d with
  |true=>exact hD n ops id kp fn rd s m w b a k cs0 cs ans F S W K e
  |false=>
   obtain ⟨N7,h1,e⟩:=R.aM e
   have hr:List.range ops.size=List.range' 0 ops.size:=List.range_eq_range'
   obtain ⟨x',s1,rfl,L⟩:=MS (k:=k) uB ops ops.size 0 om F S W K (by simpa using h1)
   refine tS.head (.one (by rw [stepR_region,hr])) ?_
   cases x' with
   |normal=>
    cases e
    obtain ⟨a1,m1,w1,cs1,fr,h1,h2,h3,h4,h5,h6⟩:=L
    exact ⟨.normal,_,rfl,a1,m1,w1,cs1,fr,h1,h2,⟨h3.tmps.kY _,h3.size,h3.defers⟩,h4,h5,h6⟩
   |_=>cases e;exact ⟨_,_,rfl,L⟩
end
end Go.Am
namespace Go.Am
open Go.RowKit
variable {P:Program} {genv:Nat→Option (List AV)} {B:Nat} {w₀:World}
def uY (P:Program) (genv:Nat→Option (List AV)) (fns:F):Prop:=
 ∀f afn,fns f=some afn→∃fn kp,P.funcs[f]? =some fn∧Hm P genv kp fn=some afn∧∀(args:Array Value) (w:World),(callFunc f args).run P w= .ok (.enter f args) w
section
variable {cs0 cs:List Frame} {w:World} {m:Mem} {s:St} {h:aD}
theorem GK (W:WR P genv B w₀ h m w) {t:TypeId} {n:Option Nat} (e:Cf P t=some n) {x v:AV} {x' :Value} (hx:VR m x x') (hr:mE h n x= .ok v):
  ∃v',((do loadVar t (←asAddr x')):Sem Value).run P w= .ok v' w∧VR m v v' :=by
 cases hx with
 |ptr id off b hb=>
  simp only [mE] at hr
  split at hr
  ·rename_i cs hg
   obtain ⟨v',h1,h2⟩:=AS e (W.JQ hb hg) hr
   rw [Nat.zero_add] at h1
   exact ⟨v',by simp only [asAddr,Sem.run_bind,Sem.run_pure,Result.andThen_ok,h1],h2⟩
  ·cases hr
 |ep cs vs b base off hl hc hi=>
  simp only [mE] at hr
  obtain ⟨v',h1,h2⟩:=AS (m:=m) (w:=w) (b:=b) (base:=base) e ⟨vs,⟨hl,hc⟩,fun i v hv=>W.imm _ _ _ (hi i v hv)⟩ hr
  exact ⟨v',by simp only [asAddr,Sem.run_bind,Sem.run_pure,Result.andThen_ok,h1],h2⟩
 |_=>cases hr
def Gx (tmps:Array Value):ResultVar→Sem Value
 | .tmp t=>pure (tmps.getD t undef)
 | .cell a t=>do loadVar t (←asAddr (tmps.getD a undef))
theorem Gw (W:WR P genv B w₀ h m w) {ts:fN} {tmps:Array Value} (T:TR m ts tmps):∀(rs:List ResultVar) (ars:List Uo) (l:List AV),rs.mapM (Ez P)=some ars→eH h ts ars= .ok l→
  ∃vs,(rs.mapM (Gx tmps)).run P w= .ok vs w∧LR m l vs:=by
 intro rs
 induction rs with
 |nil=>
  intro ars l hc e
  cases hc
  cases e
  exact ⟨[],rfl,.nil m⟩
 |cons r rs ih=>
  intro ars l hc e
  simp only [List.mapM_cons,Option.bind_eq_bind,Option.bind_eq_some_iff] at hc
  obtain ⟨ar,h1,ars',h2,h3⟩:=hc
  cases h3
  cases r with
  |tmp t=>
   cases h1
   obtain ⟨l',e1,e⟩:=R.aM e
   cases e
   obtain ⟨vs,k1,k2⟩:=ih _ _ h2 e1
   exact ⟨tmps.getD t undef::vs,by simp only [List.mapM_cons,Sem.run_bind,Gx,Sem.run_pure,Result.andThen_ok,k1],k2.cons (T t)⟩
  |cell a t=>
   obtain ⟨n,hn,rfl⟩:=Option.map_eq_some_iff.1 h1
   obtain ⟨v,hv,e⟩:=R.aM e
   obtain ⟨l',e1,e⟩:=R.aM e
   cases e
   obtain ⟨vs,k1,k2⟩:=ih _ _ h2 e1
   obtain ⟨v',k3,k4⟩:=GK W hn (T a) hv
   refine ⟨v' ::vs, ?_,k2.cons k4⟩
   have:(Gx tmps (.cell a t)).run P w= .ok v' w:=k3
   simp only [List.mapM_cons,Sem.run_bind,this,Sem.run_pure,Result.andThen_ok,k1]
theorem HQ (W:WR P genv B w₀ h m w) {ts:fN} {tmps:Array Value} (T:TR m ts tmps) {fn:Func} {ars:List Uo} {l:List AV} (hc:fn.results.toList.mapM (Ez P)=some ars) (e:eH h ts ars= .ok l):
  ∃v,(results fn tmps).run P w= .ok v w∧VR m (oneOf l) v:=by
 obtain ⟨vs,k1,k2⟩:=Gw W T _ _ _ hc e
 have hm:(fn.results.mapM (Gx tmps)).run P w= .ok vs.toArray w:=by
  rw [Array.mapM_eq_mapM_toList,Sem.run_map,k1];rfl
 have hr:(results fn tmps).run P w= .ok (if hs:vs.toArray.size=1 then vs.toArray[0] else .tuple vs.toArray) w:=by
  have:results fn tmps=(do let vs ←fn.results.mapM (Gx tmps);pure (if h:vs.size=1 then vs[0] else .tuple vs)):=by
   unfold results
   congr 1
  rw [this,Sem.run_bind,hm,Result.andThen_ok,Sem.run_pure]
 refine ⟨_,hr, ?_⟩
 cases l with
 |nil=>rw [k2.AU];exact .tup [] [] rfl (fun i c v hc=>by simp at hc)
 |cons x r=>
  obtain ⟨v,vs',rfl,hx,hr⟩:=k2.cons_inv
  cases r with
  |nil=>rw [hr.AU];exact hx
  |cons y r=>
   obtain ⟨u,us,rfl,hy,hr'⟩:=hr.cons_inv
   have hne:¬(v::u::us).toArray.size=1:=by simp
   rw [dif_neg hne]
   exact .tup _ _ k2.1 k2.2
theorem Leaves.head {f:FuncId} {kind:CallKind} {h:aD} {m0 m1:Machine} {x:Dw} {rc:RC} {h' :aD} (hs:Steps P m0 m1) (L:Leaves P genv B w₀ f kind cs0 h m m1 x rc h'):
  Leaves P genv B w₀ f kind cs0 h m m0 x rc h' :=by
 obtain ⟨m',w',cs',fr,h1,h2⟩:=L
 exact ⟨m',w',cs',fr,hs.trans h1,h2⟩
theorem Leaves.ext {f:FuncId} {kind:CallKind} {h h1:aD} {m1:Mem} {m0:Machine} {x:Dw} {rc:RC} {h' :aD} (E:Ext h m h1 m1) (L:Leaves P genv B w₀ f kind cs0 h1 m1 m0 x rc h'):
  Leaves P genv B w₀ f kind cs0 h m m0 x rc h' :=by
 obtain ⟨m',w',cs',fr,k1,k2,k3,k4,k5,k6,k7,k8,k9⟩:=L
 exact ⟨m',w',cs',fr,k1,k2,k3,k4,k5,k6,k7,k8,E.trans k9⟩
theorem FN.mono {m m' :Mem} (h:m.Le m') {mode:Option (List pQ)} {u:FrameMode} (r:FN m mode u):FN m' mode u:=by
 cases mode<;>cases u<;>first|exact r|exact ChR.mono h r
theorem FN.OE {m:Mem} {mode:Option (List pQ)} {u:FrameMode} (r:FN m mode u):u≠ .run:=by
 cases mode<;>cases u<;>first|exact r.elim|simp
theorem ChR.Sc {m:Mem} {a:List pQ} {d:List PanicEntry} (r:ChR m a d):d.dropWhile (!·.goexit)=[]:=by
 induction r with
 |nil=>rfl
 |cons h1 h2 h3 _ ih=>simp [h3,ih]
theorem IK {fns:F} (hF:uY P genv fns) {rec:Task→R Ans} (uB:sY P genv B w₀ rec) {f:FuncId} {mode:Option (List pQ)} {ans:Ans} (e:F0 fns rec f mode s= .ok ans):
  Bz P genv B w₀ (.unwind f mode s) ans:=by
 intro fr m w cs0 cs hfn hex M D T W K
 unfold F0 at e
 obtain ⟨ts,ds,rc,hp⟩:=s
 simp only at e D T W K
 split at e
 ·
  rename_i _ bl ds'
  obtain ⟨fn0,Af,Ae,O7,Ah,zR,ro0⟩:=fr
  simp only at D T K M hfn
  cases D with
  | @cons _ _ _ dl hd D' =>
   cases hd with
   |collected _ b hb=>
    unfold Bw at e
    split at e
    ·rename_i l hg
     simp only at hg
     obtain ⟨o,r,k1,k2,k3⟩:=W.obj bl b hb
     rw [hg] at k1;cases k1
     cases k3 with
     |deferred _ rs hl=>
      have Ym:(Instr.takeDeferred b).run P w= .ok rs {w with heap:=w.heap.setIfInBounds b (.deferred none)}:=by
       simp [Instr.takeDeferred,Sem.run_bind,getObj,setObj,Sem.run,k2,Result.andThen]
      have W' :=W.setObj hb k2 (o:= .deferred none) (r:= .deferred none) (fun n hh=>by rw [hg] at hh;cases hh) .taken (fun c e f hh=>by cases hh)
      have Dl:step P (lone (Frame.mk fn0 Af Ae ({target:= .collected b,args:= #[]}::dl) Ah zR ro0) cs w)= .next (lone (Frame.mk fn0 Af Ae (rs++dl) Ah zR ro0) cs {w with heap:=w.heap.setIfInBounds b (.deferred none)}):=by
       refine step_lone_go ?_
       cases Ah with
       |run=>exact absurd rfl M.OE
       |_=>simp [stepG,unwind,Sem.runT_eq,Ym]
      obtain ⟨x,rc',h',rfl,L⟩:=uB _ _ e (Frame.mk fn0 Af Ae (rs++dl) Ah zR ro0) m _ cs0 cs hfn hex M (hl.append D') T W' K
      exact ⟨x,rc',h',rfl,Leaves.ext (Ext.heap (h:=hp) (h' :=hp.set bl (.deferred none)) m rfl) (L.head (.one Dl))⟩
    ·cases e
 ·
  rename_i _ g args ds'
  obtain ⟨fn0,Af,Ae,O7,Ah,zR,ro0⟩:=fr
  simp only at D T K M hfn
  cases D with
  | @cons _ d _ dl hd D' =>
   cases hd with
   |call _ _ cp da hl=>
    obtain ⟨N7,h1,e⟩:=R.aM e
    have G2:∀a' :Array Value,a'.toList=da++cp→(da.toArray++cp.toArray:Array Value)=a' :=fun a' h=>by apply Array.ext';simp [h]
    have K0:KR m .deferred (Frame.mk fn0 Af Ae dl Ah zR ro0::cs) (M8 mode) (Frame.mk fn0 Af Ae dl Ah zR ro0::cs):=by
     cases mode with
     |none=>
      cases Ah with
      |returning=>exact .ret rfl rfl
      |_=>exact M.elim
     |some ch=>
      cases Ah with
      |panicking ch' =>exact KR.pan (c:=Frame.mk fn0 Af Ae dl (.panicking ch') zR ro0) rfl M
      |_=>exact M.elim
    obtain ⟨x,rc',h',rfl,hcf,L⟩:=uB _ _ h1 (da++cp).toArray m w .deferred _ _ (by simpa using hl) W K0
    have hinv:(invoke (.fn (.func g) cp.toArray) da.toArray).run P w= .ok (.enter g (da++cp).toArray) w:=by
     simp only [invoke]
     rw [G2 (da++cp).toArray (by simp)]
     exact hcf
    have Dl:=step_defer (P:=P) (fr:=Frame.mk fn0 Af Ae ({target:= .fn (.func g) cp.toArray,args:=da.toArray}::dl) Ah zR ro0) (cs:=cs) M.OE rfl rfl hinv
    obtain ⟨m',w',cs',fr',q1,q2,q3,q4,⟨fnq,q5⟩,q6,q7,q8,q9⟩:=L
    have T' :=T.mono q9.le
    have D'' :=D'.mono q9.le
    have K' :=K.mono q9.le
    have ret:∀(ans:Ans) (u1:FrameMode) (Sl:Option (List pQ)),rec (.unwind f Sl ⟨ts,ds',rc,h'⟩)= .ok ans→FN m' Sl u1→
      step P (lone fr' cs' w')= .next (lone (Frame.mk fn0 Af Ae dl u1 zR ro0) cs w')→
      ∃x rc' h',ans= .call x rc' h' ∧Leaves P genv B w₀ f zR cs0 hp m (lone (Frame.mk fn0 Af Ae ({target:= .fn (.func g) cp.toArray,args:=da.toArray}::dl) Ah zR ro0) cs w) x rc' h' :=by
     intro ans u1 Sl e1 hm1 hst
     obtain ⟨x2,rc2,h2,rfl,L⟩:=uB _ _ e1 (Frame.mk fn0 Af Ae dl u1 zR ro0) m' w' cs0 cs hfn hex hm1 D'' T' q8 K'
     exact ⟨x2,rc2,h2,rfl,(L.head ((Steps.head Dl q1).trans (.one hst))).ext q9⟩
    cases x with
    |ret v=>
     obtain ⟨r1,fn',v',r2,r3,_⟩:=q6
     have hgo:fr'.going P w' (.returned v'):=⟨r1,q4,fn',by rw [q2];exact r2,r3⟩
     simp only [zC] at e
     cases q7 with
     |plain hh=>cases hh
     |ret _ zT=>
      have hst:=step_going_returned (cs:=cs) (c:=Frame.mk fn0 Af Ae dl Ah zR ro0) q3 hgo
      simp only at zT
      subst zT
      cases mode with
      |some _=>exact M.elim
      |none=>exact ret _ .returning none e trivial hst
     | @pan _ _ chain ch _ hch=>
      have hst:=step_going_returned (cs:=cs) (c:=Frame.mk fn0 Af Ae dl (.panicking ch) zR ro0) q3 hgo
      cases mode with
      |none=>cases e
      |some c0=>
       cases hch with
       |nil=>exact ret _ (.panicking []) (some []) e .nil hst
       | @cons p en ps es hv FF YF YJ =>
        obtain ⟨pv,pr⟩:=p
        obtain ⟨ev,er,eg⟩:=en
        simp only at hv FF YF
        subst FF YF
        cases er with
        |true=>
         have GZ:settle (.panicking ({v:=ev,recovered:=true,goexit:=false}::es))= .returning:=by simp [settle,YJ.Sc]
         simp only [GZ] at hst
         exact ret _ .returning none e trivial hst
        |false=>exact ret _ (.panicking ({v:=ev,recovered:=false,goexit:=false}::es)) (some ({v:=pv,recovered:=false}::ps)) e (ChR.cons hv rfl rfl YJ) hst
    |panic ch1=>
     obtain ⟨Xv,r1,r2⟩:=q6
     have hgo:fr'.going P w' (.panicked Xv):=⟨r1,q4,fnq,by rw [q2];exact q5⟩
     simp only [zC] at e
     cases q7 with
     |plain hh=>cases hh
     |ret _ zT=>
      have hst:=step_going_panicked (cs:=cs) (c:=Frame.mk fn0 Af Ae dl Ah zR ro0) hgo
      simp only at zT
      subst zT
      cases mode with
      |some _=>exact M.elim
      |none=>exact ret _ (.panicking Xv) (some ch1) e r2 hst
     | @pan _ _ chain ch _ hch=>
      have hst:=step_going_panicked (cs:=cs) (c:=Frame.mk fn0 Af Ae dl (.panicking ch) zR ro0) hgo
      cases mode with
      |none=>cases e
      |some c0=>exact ret _ (.panicking (Xv ++ch)) (some (ch1++chain)) e (r2.append hch) hst
 ·
  obtain ⟨fn0,Af,Ae,O7,Ah,zR,ro0⟩:=fr
  simp only at D T K M hfn
  cases D
  subst hfn
  unfold Hf at e
  split at e
  ·rename_i ch
   cases e
   cases Ah with
   |panicking ch' =>exact ⟨_,_,_,rfl,m,w,cs,_,.refl _ _,rfl,rfl,rfl,hex,⟨ch',rfl,M⟩,K,W,.refl _ _⟩
   |_=>exact M.elim
  ·split at e
   ·cases e
   ·rename_i afn Ta
    obtain ⟨l,hl,e⟩:=R.aM e
    cases e
    obtain ⟨fn,kp,k1,k2,_⟩:=hF _ _ Ta
    have k3:fn.results.toList.mapM (Ez P)=some afn.results:=by
     unfold Hm at k2
     split at k2
     ·rename_i hrs;cases k2;exact hrs
     ·cases k2
    obtain ⟨v,hv1,hv2⟩:=HQ W T k3 hl
    cases Ah with
    |returning=>exact ⟨_,_,_,rfl,m,w,cs,_,.refl _ _,rfl,rfl,rfl,hex,⟨rfl,fn,v,k1,hv1,hv2⟩,K,W,.refl _ _⟩
    |_=>exact M.elim
theorem Mf:∀(args:List AV) (i t:Nat),cH (eO i args) t=if t<i then .unk else (args[t -i]?).getD .unk:=by
 intro args
 induction args with
 |nil=>
  intro i t
  show AV.unk=_
  simp
 |cons x r ih=>
  intro i t
  show cH ((i,x)::eO (i+1) r) t=_
  rw [tV,ih]
  by_cases h1:i=t
  ·subst h1;simp
  ·rw [if_neg h1]
   by_cases h2:t<i
   ·rw [if_pos h2,if_pos om]
   ·rw [if_neg h2,if_neg om]
    have:t -i=(t -(i+1))+1:=om
    rw [this];simp
theorem L7 {fns:F} (hF:uY P genv fns) {rec:Task→R Ans} (uB:sY P genv B w₀ rec) {f:FuncId} {args:List AV} {rc:RC} {ans:Ans} (e:IB fns rec f args rc h= .ok ans):
  Bz P genv B w₀ (.call f args rc h) ans:=by
 intro jY m w kind cs0 cs ha W K
 unfold IB at e
 split at e
 ·cases e
 ·rename_i afn Ta
  obtain ⟨N7,h1,e⟩:=R.aM e
  obtain ⟨fn,kp,k1,k2,k3⟩:=hF _ _ Ta
  unfold Hm at k2
  split at k2
  ·rename_i c rs YM hrs
   cases k2
   let b:Frame:={fn:=f,tmps:= #[],todo:=[],defers:=[],mode:= .run,kind}
   let a:Act:=⟨jY ++Array.replicate (fn.ntmps -jY.size) undef,[]⟩
   have S7:Frame.enter P f jY kind=b.atR a [.code c]:=by
    simp [Frame.enter,Frame.atR,k1,YM,b,a]
   have S:SR m ⟨eO 0 args,[],rc,h⟩ a fn.ntmps:=by
    refine ⟨fun t=> ?_,by simp [a];omega,.nil⟩
    show VR m (cH (eO 0 args) t) _
    rw [Mf,if_neg (Nat.not_lt_zero t),Nat.sub_zero]
    cases hx:args[t]? with
    |none=>exact .unk _
    |some x=>
     obtain ⟨v,hv,hr⟩:=ha.get hx
     have hlt:t<jY.size:=by simpa using (List.getElem?_eq_some_iff.1 hv).1
     have:a.tmps.getD t undef=v:=by
      have h2:jY[t]? =some v:=by simpa using hv
      have h3:(jY ++Array.replicate (fn.ntmps -jY.size) undef)[t]? =some v:=by rw [Array.getElem?_append_left hlt];exact h2
      show (jY ++Array.replicate (fn.ntmps -jY.size) undef).getD t undef=v
      rw [Array.getD_eq_getD_getElem?,h3];rfl
     rw [this]
     exact hr
   obtain ⟨x,s1,rfl,a1,m1,w1,cs1,fr,q1,q2,q3,q4,q5,q6⟩:=uB _ _ h1 fn.ntmps c (.code c) m w b a [] cs0 cs ⟨kp,rfl⟩ (.inl rfl) ⟨rfl,trivial⟩ S W K
   rw [←S7] at q1
   have fin:∀(fr:Frame) (mode:Option (List pQ)),fr.fn=f→fr.kind=kind→FN m1 mode fr.mode→DL m1 s1.defers fr.defers→TR m1 s1.tmps fr.tmps→Steps P (lone (Frame.enter P f jY kind) cs w) (lone fr cs1 w1)→
     rec (.unwind f mode s1)= .ok ans→∃x rc' h',ans= .call x rc' h' ∧(callFunc f jY).run P w= .ok (.enter f jY) w∧Leaves P genv B w₀ f kind cs0 h m (lone (Frame.enter P f jY kind) cs w) x rc' h' :=by
    intro fr mode g1 g2 g3 g4 g5 g6 e
    obtain ⟨x,rc',h',rfl,L⟩:=uB _ _ e fr m1 w1 cs0 cs1 g1 ⟨fn,k1⟩ g3 g4 g5 q4 (by rw [g2];exact q5)
    rw [g2] at L
    exact ⟨x,rc',h',rfl,k3 _ _,(L.head g6).ext q6⟩
   cases x with
   |normal=>
    cases q2
    exact fin {b.atR a1 [] with mode:= .returning} none rfl rfl trivial q3.defers q3.tmps (q1.trans (.one (stepR_end rfl))) e
   |ret=>
    obtain ⟨k1,rfl⟩:=q2
    exact fin {b.atR a1 (.code .ret::k1) with mode:= .returning} none rfl rfl trivial q3.defers q3.tmps (q1.trans (.one (stepR_ret rfl))) e
   |panic ch=>
    obtain ⟨k1,ch',rfl,hch⟩:=q2
    exact fin {b.atR a1 k1 with mode:= .panicking ch' } (some ch) rfl rfl hch q3.defers q3.tmps q1 e
   |exit id=>cases e
  ·cases k2
def EO (P:Program) (genv:Nat→Option (List AV)) (B:Nat) (w₀:World) (orc:Orc):Prop:=
 ∀f g,orc f=some g→∀args v,g args=some v→∀(h:aD) (m:Mem) (w:World) (cs:List Frame) (jY :Array Value),LR m args jY.toList→WR P genv B w₀ h m w→
  (callFunc f jY).run P w= .ok (.enter f jY) w∧Leaves P genv B w₀ f .normal cs h m (lone (Frame.enter P f jY .normal) cs w) (.ret v) .plain h
theorem NZ {fns:F} (hF:uY P genv fns) {orc:Orc} (hO:EO P genv B w₀ orc) {rec:Task→R Ans} (uB:sY P genv B w₀ rec) {f:FuncId} {args:List AV} {rc:RC} {ans:Ans} (e:Bx fns orc rec f args rc h= .ok ans):
  Bz P genv B w₀ (.call f args rc h) ans:=by
 unfold Bx at e
 split at e
 ·rename_i g hv
  unfold F4 at e
  split at e
  ·split at e
   ·rename_i v hg
    cases e
    intro jY m w kind cs0 cs ha W K
    cases K with
    |plain hk=>
     subst hk
     obtain ⟨h1,h2⟩:=hO f g hv args v hg h m w cs0 jY ha W
     exact ⟨_,_,_,rfl,h1,h2⟩
   ·cases e
  ·cases e
 ·exact L7 hF uB e
theorem Fj:∀(ps:List Nat) (as:List AV) (ts ts' :fN) (vs:List Value) (tmps:Array Value) (n:Nat),B0 ps as ts=some ts' →LR m as vs→TR m ts tmps→n≤tmps.size→(∀p∈ps,p<n)→
  ps.length=vs.length∧TR m ts' ((ps.zip vs).foldl (fun tmps (t,a)=>tmps.setIfInBounds t a) tmps)∧n≤((ps.zip vs).foldl (fun (tmps:Array Value) (t,a)=>tmps.setIfInBounds t a) tmps).size:=by
 intro ps
 induction ps with
 |nil=>
  intro as ts ts' vs tmps n e ha T hn hp
  cases as with
  |cons a as=>cases e
  |nil=>cases e;rw [ha.AU];exact ⟨rfl,T,hn⟩
 |cons p ps ih=>
  intro as ts ts' vs tmps n e ha T hn hp
  cases as with
  |nil=>cases e
  |cons a as=>
   obtain ⟨v,vs',rfl,h1,h2⟩:=ha.cons_inv
   have hlt:=hp p (by simp)
   have T1:=T.put (some p) (x:=a) (v:=v) (fun t e=>by cases e;omega) h1
   obtain ⟨q1,q2,q3⟩:=ih as ((p,a)::ts) ts' vs' (tmps.setIfInBounds p v) n e h2 T1 (by simpa using hn) (fun q hq=>hp q (by simp [hq]))
   exact ⟨by simp [q1],q2,q3⟩
theorem Ij {kind:CallKind} {rc:RC} (K:KR m kind cs0 rc cs) (hk:kind= .normal):cs=cs0∧rc= .plain:=by
 cases K with
 |plain _=>exact ⟨rfl,rfl⟩
 |ret hh _=>rw [hk] at hh;cases hh
 |pan hh _=>rw [hk] at hh;cases hh
theorem He (W:WR P genv B w₀ h m w) {l lb:Nat} (hl:m.ρ l=some lb) {j:Option Jump} {v:AV} {h' :aD} (e:endRound h l j= .ok (v,h')):
  ∃v' w',(Instr.endRound lb (j.map Cs)).run P w= .ok v' w' ∧VR m v v' ∧WR P genv B w₀ h' m w' ∧h'.next=h.next:=by
 unfold endRound at e
 obtain ⟨r,hr,e⟩:=R.aM e
 obtain ⟨L,g1,g2,g3⟩:=Em W hl hr
 cases j with
 |none=>
  cases e
  have W' :=W.F2 hl g1 g3 (r' :={r with state:= .ready,pending:=none}) (L' :={L with state:= .ready,pending:=none}) ⟨rfl,rfl,g2.fn,g2.tmps,g2.params,g2.code,g2.defers⟩
  exact ⟨.bool true,_,by simp [Instr.endRound,Sem.run_bind,xM g1,BI g1],.bool true,W',rfl⟩
 |some j=>
  cases e
  have W' :=W.F2 hl g1 g3 (r' :={r with state:= .done,pending:=some j}) (L' :={L with state:= .done,pending:=some (Cs j)}) ⟨rfl,rfl,g2.fn,g2.tmps,g2.params,g2.code,g2.defers⟩
  exact ⟨.bool false,_,by simp [Instr.endRound,Sem.run_bind,xM g1,BI g1],.bool false,W',rfl⟩
theorem Xq {ds:List Deferred} (h:DL m [] ds):ds=[]:=by cases h;rfl
theorem Kw {fns:F} (hF:uY P genv fns) {rec:Task→R Ans} (uB:sY P genv B w₀ rec) {l:Nat} {args:List AV} {ans:Ans} (e:Gv fns rec l args h= .ok ans):Bz P genv B w₀ (.round l args h) ans:=by
 intro lb jY m w c cs hl ha W
 unfold Gv at e
 obtain ⟨r,hr,e⟩:=R.aM e
 obtain ⟨L,g1,g2,g3⟩:=Em W hl hr
 split at e
 ·cases e
 ·rename_i ts hts
  obtain ⟨N7,h1,e⟩:=R.aM e
  obtain ⟨n,hn,hp,ca,cb⟩:=g2.code
  obtain ⟨b1,b2,b3⟩:=Fj _ _ _ _ _ _ n hts ha g2.tmps hn hp
  let tm:Array Value:=(L.params.zip jY).foldl (fun tmps (t,a)=>tmps.setIfInBounds t a) L.tmps
  have htm:tm=(r.params.zip jY.toList).foldl (fun tmps (t,a)=>tmps.setIfInBounds t a) L.tmps:=by
   show (L.params.zip jY).foldl _ L.tmps=_
   rw [←Array.foldl_toList,Array.toList_zip,g2.params]
  have hsz:jY.size=L.params.size:=by
   have:=b1
   rw [←g2.params] at this
   simpa using this.symm
  have hy:(Instr.yield lb jY).run P w= .ok (.round lb L.fn tm L.assign L.body) w:=by
   simp [Instr.yield,Sem.run_bind,xM g1,hsz,tm]
  let b:Frame:={fn:=L.fn,tmps:= #[],todo:=[],defers:=[],mode:= .run,kind:= .normal,roundOf:=some lb}
  have hfr:Frame.round lb L.fn tm L.assign L.body .normal=b.atR ⟨tm,[]⟩ (.code L.assign::[.beginRound,.code L.body]):=rfl
  have S:SR m ⟨ts,[],.plain,h⟩ ⟨tm,[]⟩ n:=⟨by rw [htm];exact b2,by rw [htm];exact b3,.nil⟩
  obtain ⟨x,s1,rfl,a1,m1,w1,cs1,fr,q1,q2,q3,q4,q5,q6⟩:=uB _ _ h1 n L.assign (.code L.assign) m w b ⟨tm,[]⟩ [.beginRound,.code L.body] (c::cs) (c::cs) ca (.inl rfl) ⟨g2.fn,hl⟩ S W (.plain rfl)
  rw [←hfr] at q1
  cases x with
  |normal=>
   cases q2
   simp only [C6] at e
   obtain ⟨r',hr',e⟩:=R.aM e
   obtain ⟨L',j1,j2,j3⟩:=Em q4 (q6.le.ρ _ _ hl) hr'
   split at e
   ·rename_i hst
    obtain ⟨ans2,h2,e⟩:=R.aM e
    have Xd:(Instr.beginRound lb).run P w1= .ok () {w1 with heap:=w1.heap.setIfInBounds lb (.loop {L' with state:= .busy})}:=by
     have:L'.state= .ready:=j2.state.trans hst
     simp [Instr.beginRound,Sem.run_bind,xM j1,BI j1,this]
    have W2:=q4.F2 (q6.le.ρ _ _ hl) j1 j3 (r' :={r' with state:= .busy}) (L' :={L' with state:= .busy}) ⟨rfl,j2.pending,j2.fn,j2.tmps,j2.params,j2.code,j2.defers⟩
    obtain ⟨rfl,hrc⟩:=Ij q5 rfl
    obtain ⟨x,s2,rfl,a2,m2,w2,cs2,fr2,p1,p2,p3,p4,p5,p6⟩:=uB _ _ h2 n L.body (.code L.body) m1 _ b a1 [] (c::cs) (c::cs) cb (.inl rfl) ⟨g2.fn,q6.le.ρ _ _ hl⟩ ⟨q3.tmps,q3.size,q3.defers⟩ W2 q5
    obtain ⟨rfl,hrc2⟩:=Ij p5 rfl
    have steps:=(q1.trans (.one (stepR_beginRound (b:=b) rfl Xd))).trans p1
    have E2:Ext h m s2.heap m2:=q6.trans (Ext.trans (Ext.heap (h:=s1.heap) (h' :=s1.heap.set l (.loop {r' with state:= .busy})) m1 rfl) p6)
    have hl2:=p6.le.ρ _ _ (q6.le.ρ _ _ hl)
    have fin:∀(j:Option Jump) (ans:Ans),oV s2.heap l j= .ok ans→(∀v w3,(Instr.endRound lb (j.map Cs)).run P w2= .ok v w3→step P (lone fr2 (c::cs) w2)= .next (lone (c.finish v) cs w3))→
      ∃x h',ans= .call x .plain h' ∧Mp P genv B w₀ c cs h m (lone (Frame.round lb L.fn tm L.assign L.body .normal) (c::cs) w) x h' :=by
     intro j ans e hst
     obtain ⟨⟨v,h3⟩,e1,e⟩:=R.aM e
     cases e
     obtain ⟨v',w3,r1,r2,W3⟩:=He p4 hl2 e1
     exact ⟨_,h3,rfl,m2,w3,_,steps.trans (.one (hst v' w3 r1)),⟨v',r2,rfl⟩,W3.1,E2.trans (.heap m2 W3.2)⟩
    cases x with
    |normal=>
     cases p2
     obtain ⟨x,h',rfl,Bk⟩:=fin none ans e (fun v w3 hr=>stepR_round_end (b:=b) rfl rfl hr)
     exact ⟨x,h',rfl,_,_,_,_,hy,Bk⟩
    |ret=>
     obtain ⟨k1,rfl⟩:=p2
     obtain ⟨x,h',rfl,Bk⟩:=fin (some .ret) ans e (fun v w3 hr=>stepR_round_ret (b:=b) rfl rfl hr)
     exact ⟨x,h',rfl,_,_,_,_,hy,Bk⟩
    |exit id=>
     obtain ⟨k1,rfl,hk⟩:=p2
     obtain ⟨x,h',rfl,Bk⟩:=fin (some (.exit id)) ans e (fun v w3 hr=>stepR_round_exit (b:=b) rfl rfl (by rw [hk];rfl) hr)
     exact ⟨x,h',rfl,_,_,_,_,hy,Bk⟩
    |panic ch=>
     obtain ⟨k1,ch',rfl,hch⟩:=p2
     simp only [aN] at e
     unfold GA at e
     split at e
     ·rename_i afn ds0 Ta hds
      cases e
      obtain ⟨fnr,_,hfnr,_⟩:=hF _ _ Ta
      refine ⟨_,_,rfl,_,_,_,_,hy,m2,w2,_,steps.trans (.one ?_),⟨ch',hch,rfl⟩,p4,E2⟩
      exact step_leave_panicked ⟨rfl,Xq (hds▸p3.defers),fnr,by show P.funcs[L.fn]? =_;rw [g2.fn];exact hfnr⟩
     ·cases e
   ·cases e
  |panic ch=>cases e
  |ret=>cases e
  |exit id=>cases e
theorem Hc {fns:F} (hF:uY P genv fns) {orc:Orc} (hO:EO P genv B w₀ orc) {rec:Task→R Ans} (uB:sY P genv B w₀ rec) (hD:Da P genv B w₀ rec):sY P genv B w₀ (Hd fns orc rec):=by
 intro t ans e
 cases t with
 |code fn rd c s=>
  intro n code it m w b a k cs0 cs hc hit F S W K
  obtain ⟨kp,rfl⟩:=hc
  exact NL uB hD n b cs0 fn rd kp code hit F S W K e
 |call f args rc h=>exact NZ hF hO uB e
 |unwind f mode s=>exact IK hF uB e
 |round l args h=>exact Kw hF uB e
theorem Nz {fns:F} (hF:uY P genv fns) {orc:Orc} (hO:EO P genv B w₀ orc) (hD:∀rec,sY P genv B w₀ rec→Da P genv B w₀ rec):∀n,sY P genv B w₀ (eval fns orc n):=by
 intro n
 induction n with
 |zero=>intro t ans e;cases e
 |succ n ih=>exact Hc hF hO ih (hD _ ih)
end
end Go.Am
namespace Go.Am
theorem Ub {f:AV→AV→Bool} (hf:∀a b,f a b=true→a=b):∀(a b:List AV),allEq f a b=true→a=b:=by
 intro a
 induction a with
 |nil=>intro b e;cases b<;>first|rfl|cases e
 |cons x r ih=>
  intro b e
  cases b with
  |nil=>cases e
  |cons y q=>
   simp only [allEq] at e
   split at e
   ·rename_i h1
    rw [hf _ _ h1,ih q e]
   ·cases e
theorem Uy {a b:Tk} (e:Pw a b=true):a=b:=by
 cases a<;>cases b<;>first|rfl|(simp only [Pw,Bool.and_eq_true] at e;obtain ⟨h1,h2⟩:=e;rw [Nat.eq_of_beq_eq_true h1,Nat.eq_of_beq_eq_true h2])|cases e
theorem WQ {a b:IntKind} (e:kEq a b=true):a=b:=of_decide_eq_true e
mutual
theorem Hs:∀(a b:AV),dX a b=true→a=b
 | .bool a,b,e=>by
  cases b<;>simp only [dX] at e<;>first|cases e|skip
  rw [iK] at e;rw [eq_of_beq e]
 | .int k a,b,e=>by
  cases b<;>simp only [dX] at e<;>first|cases e|skip
  simp only [Bool.and_eq_true] at e
  rw [WQ e.1]
  have:=e.2
  rw [iQ] at this
  rw [of_decide_eq_true this]
 | .str a,b,e=>by
  cases b<;>simp only [dX] at e<;>first|cases e|skip
  rw [jV] at e;rw [eq_of_beq e]
 | .ptr i o,b,e=>by
  cases b<;>simp only [dX] at e<;>first|cases e|skip
  simp only [Bool.and_eq_true] at e
  rw [Nat.eq_of_beq_eq_true e.1,Nat.eq_of_beq_eq_true e.2]
 | .pI,b,e=>by cases b<;>simp only [dX] at e<;>first|rfl|cases e
 | .ep c o,b,e=>by
  cases b<;>simp only [dX] at e<;>first|cases e|skip
  simp only [Bool.and_eq_true] at e
  rw [AM c _ e.1,Nat.eq_of_beq_eq_true e.2]
 | .sl t xs,b,e=>by
  cases b<;>simp only [dX] at e<;>first|cases e|skip
  simp only [Bool.and_eq_true] at e
  rw [Uy e.1,AM xs _ e.2]
 | .aC,b,e=>by cases b<;>simp only [dX] at e<;>first|rfl|cases e
 | .arr i1 i2 i3 i4,b,e=>by
  cases b<;>simp only [dX] at e<;>first|cases e|skip
  simp only [Bool.and_eq_true] at e
  rw [Nat.eq_of_beq_eq_true e.1.1.1,Nat.eq_of_beq_eq_true e.1.1.2,Nat.eq_of_beq_eq_true e.1.2,Nat.eq_of_beq_eq_true e.2]
 | .map i,b,e=>by
  cases b<;>simp only [dX] at e<;>first|cases e|skip
  rw [Nat.eq_of_beq_eq_true e]
 | .qQ,b,e=>by cases b<;>simp only [dX] at e<;>first|rfl|cases e
 | .fn g x y,b,e=>by
  cases b<;>simp only [dX] at e<;>first|cases e|skip
  simp only [Bool.and_eq_true] at e
  rw [Nat.eq_of_beq_eq_true e.1.1,AM x _ e.1.2,AM y _ e.2]
 | .yield l,b,e=>by
  cases b<;>simp only [dX] at e<;>first|cases e|skip
  rw [Nat.eq_of_beq_eq_true e]
 | .rM,b,e=>by cases b<;>simp only [dX] at e<;>first|rfl|cases e
 | .iface t v,b,e=>by
  cases b<;>simp only [dX] at e<;>first|cases e|skip
  simp only [Bool.and_eq_true] at e
  rw [Nat.eq_of_beq_eq_true e.1,Hs v _ e.2]
 | .uX,b,e=>by cases b<;>simp only [dX] at e<;>first|rfl|cases e
 | .agg x,b,e=>by
  cases b<;>simp only [dX] at e<;>first|cases e|skip
  rw [AM x _ e]
 | .tup x,b,e=>by
  cases b<;>simp only [dX] at e<;>first|cases e|skip
  rw [AM x _ e]
 | .unk,b,e=>by simp only [dX] at e;cases e
theorem AM:∀(a b:List AV),kQ a b=true→a=b
 |[],b,e=>by cases b<;>simp only [kQ] at e<;>first|rfl|cases e
 |x::r,b,e=>by
  cases b<;>simp only [kQ] at e<;>first|cases e|skip
  simp only [Bool.and_eq_true] at e
  rw [Hs x _ e.1,AM r _ e.2]
end
theorem Pg:∀(n:Nat) (a b:AV),Me n a b=true→a=b:=fun _ a b e=>Hs a b e
variable {ts ts' :fN} {h h' :aD}
def xZ (ts ts' :fN) (l:List Nat):Prop:=∀t∈l,cH ts t=cH ts' t
theorem xZ.left {a b:List Nat} (A:xZ ts ts' (a++b)):xZ ts ts' a:=fun t ht=>A t (by simp [ht])
theorem xZ.right {a b:List Nat} (A:xZ ts ts' (a++b)):xZ ts ts' b:=fun t ht=>A t (by simp [ht])
theorem qU {x:Opd} (A:xZ ts ts' x.uV):ev ts x=ev ts' x:=by
 cases x with
 |t n=>exact A n (by simp [Opd.uV])
 |c v=>rfl
theorem Bv:∀{l:List Opd},xZ ts ts' (D4 l)→evL ts l=evL ts' l:=by
 intro l
 induction l with
 |nil=>intro _;rfl
 |cons x r ih=>
  intro A
  show ev ts x::evL ts r=ev ts' x::evL ts' r
  rw [qU A.left,ih A.right]
theorem Fe {x:Option Opd} (A:xZ ts ts' (Ol x)):evO ts x=evO ts' x:=by
 cases x with
 |none=>rfl
 |some x=>show some (ev ts x)=some (ev ts' x);rw [qU A]
theorem LF:∀{l:List (Nat×Nat×Opd)} (z:List AV),xZ ts ts' (Rh l)→lK z ts l=lK z ts' l:=by
 intro l
 induction l with
 |nil=>intro z _;rfl
 |cons x r ih=>
  intro z A
  obtain ⟨off,size,x⟩:=x
  simp only [lK]
  rw [qU A.left]
  split
  ·split
   ·exact ih _ A.right
   ·rfl
  ·rfl
theorem JF {size:Nat}:∀{l:List Opd},xZ ts ts' (D4 l)→kZ size ts l=kZ size ts' l:=by
 intro l
 induction l with
 |nil=>intro _;rfl
 |cons x r ih=>
  intro A
  simp only [kZ]
  rw [qU A.left,ih A.right]
theorem Il {o:AOp} (A:xZ ts ts' o.uV):opA ts h o=opA ts' h o:=by
 cases o with
 |mov x=>simp only [opA];rw [qU A]
 |u1 u x=>simp only [opA];rw [qU A]
 |u2 u x=>simp only [opA];rw [qU A]
 |b2 b x y=>simp only [opA];rw [qU A.left,qU A.right]
 |call f l=>simp only [opA];rw [qU A.left,Bv A.right]
 |o3 o=>
  cases o with
  |pick c a b=>simp only [opA,pL];rw [qU A.left,qU A.right.left,qU A.right.right]
  |alloc z=>rfl
  |build z l=>simp only [opA,pL,kN];rw [LF z A]
  |DX n l=>simp only [opA,pL,jN];rw [JF A]
  |Sm f a b=>simp only [opA,pL];rw [Bv A.left,Bv A.right]
  |mkMap=>rfl
  |slc s n x lo hi u=>simp only [opA,pL];rw [qU A.left,Fe A.right.left,Fe A.right.right.left,Fe A.right.right.right]
  |E0 kn m k v=>simp only [opA,pL];rw [qU A.left,qU A.right.left,qU A.right.right]
  |mx b l=>simp only [opA,pL];rw [Bv A]
  |defer f l=>simp only [opA,pL];rw [qU A.left,Bv A.right]
  |recover=>rfl
  |none w=>rfl
theorem De {g:Option (Nat×Bool)} (A:xZ ts ts' (match g with|some (t,_)=>[t]|none=>[])):iJ ts g=iJ ts' g:=by
 cases g with
 |none=>rfl
 |some p=>
  obtain ⟨t,w⟩:=p
  simp only [iJ]
  rw [A t (by simp)]
theorem Dj {o:lI} (A:xZ ts ts' o.uV):iW ts h o=iW ts' h o:=by
 unfold iW
 rw [De A.left,Il (h:=h) A.right]
def Still (ts:fN) (o:AOp):Prop:=∀h nx v,opA ts h o= .ok nx→jO nx= .ok v→nx= .val v h
def Zg (ts:fN) (o:AOp):Prop:=∀h h' nx,opA ts h o= .ok nx→∃v,nx= .val v h∧opA ts h' o= .ok (.val v h')
theorem zJ {x:R AV}:∀h h' nx,vl h x= .ok nx→∃v,nx= .val v h∧vl h' x= .ok (.val v h'):=by
 intro h h' nx e
 obtain ⟨v,rfl,rfl⟩:=Ch e
 exact ⟨v,rfl,rfl⟩
theorem BZ {α:Type} {x:R α} {f:α→AV}:∀(h h' :aD) nx,(x.bind fun a=>R.ok (jF.val (f a) h))= .ok nx→∃v,nx= .val v h∧(x.bind fun a=>R.ok (jF.val (f a) h'))= .ok (.val v h'):=by
 intro h h' nx e
 obtain ⟨a,rfl,e⟩:=R.aM e
 cases e
 exact ⟨_,rfl,rfl⟩
theorem Du {o:AOp} (hc:o.cls= .soft):Zg ts o:=by
 intro h h' nx e
 cases o with
 |mov x=>cases e;exact ⟨_,rfl,rfl⟩
 |call f l=>cases hc
 |u1 u x=>
  simp only [opA] at e⊢
  generalize ev ts x=y at e⊢
  cases u with
  |load n=>cases hc
  |M6=>cases y<;>first|(cases e;done)|(cases e;exact ⟨_,rfl,rfl⟩)
  |Tr off=>exact zJ h h' nx e
  |len k=>
   cases k with
   |map=>cases hc
   |str=>cases y<;>first|(cases e;done)|(cases e;exact ⟨_,rfl,rfl⟩)
   |sl=>cases y<;>first|(cases e;done)|(cases e;exact ⟨_,rfl,rfl⟩)
  |extract i=>
   cases y<;>try (cases e;done)
   simp only [qS,jT] at e⊢
   split at e
   ·cases e;exact ⟨_,rfl,rfl⟩
   ·cases e
  |fld off n=>
   cases y<;>try (cases e;done)
   exact zJ h h' nx e
 |u2 u x=>
  simp only [opA] at e⊢
  generalize ev ts x=y at e⊢
  cases u with
  |box=>cases hc
  |range=>cases hc
  |next=>cases hc
  |panic=>cases hc
  |un op=>cases op<;>cases y<;>first|(cases e;done)|(cases e;exact ⟨_,rfl,rfl⟩)
  |TI k=>cases y<;>first|(cases e;done)|(cases e;exact ⟨_,rfl,rfl⟩)
  |TH=>cases y<;>first|(cases e;done)|(cases e;exact ⟨_,rfl,rfl⟩)
  |JH=>cases y<;>first|(cases e;done)|(cases e;exact ⟨_,rfl,rfl⟩)
  |NH=>cases y<;>first|(cases e;done)|(cases e;exact ⟨_,rfl,rfl⟩)|exact BZ h h' nx e
  |mkIf t=>cases e;exact ⟨_,rfl,rfl⟩
  |IL t z=>cases y<;>first|(cases e;done)|(cases e;exact ⟨_,rfl,rfl⟩)
  |cap=>
   cases y<;>first|(cases e;done)|(cases e;exact ⟨_,rfl,rfl⟩)|skip
   rename_i tk xs
   cases tk<;>first|(cases e;done)|(cases e;exact ⟨_,rfl,rfl⟩)
 |b2 b x y=>
  simp only [opA] at e⊢
  generalize ev ts x=u at e⊢
  generalize ev ts y=v at e⊢
  cases b with
  |bin op=>exact zJ h h' nx e
  |eq neg k=>exact BZ (f:=fun b=> .bool (match neg with|true=>JV b|false=>b)) h h' nx e
  |store n=>cases hc
  |GY n=>exact zJ h h' nx e
  |GX len size=>
   cases v<;>try (cases e;done)
   simp only [qT,CN] at e⊢
   split at e
   ·exact zJ h h' nx e
   ·cases e
  |Nl=>
   cases u<;>try (cases e;done)
   cases v<;>try (cases e;done)
   simp only [qT,yE] at e⊢
   split at e
   ·split at e
    ·cases e;exact ⟨_,rfl,rfl⟩
    ·cases e
   ·cases e
  |No len size n=>
   cases u<;>try (cases e;done)
   cases v<;>try (cases e;done)
   simp only [qT,F5] at e⊢
   split at e
   ·exact zJ h h' nx e
   ·cases e
  |lookup kn z ok=>cases hc
  |mkSlice z=>cases hc
  |append n=>cases hc
 |o3 o=>
  cases o with
  |pick c a b=>
   simp only [opA,pL] at e⊢
   generalize ev ts c=y at e⊢
   cases y<;>try (cases e;done)
   rename_i bb
   cases bb<;>(cases e;exact ⟨_,rfl,rfl⟩)
  |alloc z=>cases hc
  |build z l=>exact BZ h h' nx e
  |DX n l=>exact BZ h h' nx e
  |Sm f a b=>cases e;exact ⟨_,rfl,rfl⟩
  |mkMap=>cases hc
  |slc s n x lo hi u=>exact zJ h h' nx e
  |E0 kn m k v=>cases hc
  |mx b l=>
   simp only [opA,pL] at e⊢
   generalize evL ts l=y at e⊢
   cases y with
   |nil=>cases e
   |cons a r=>exact zJ h h' nx e
  |defer f l=>cases hc
  |recover=>cases hc
  |none w=>cases hc
theorem HK {o:AOp} (hc:o.cls= .look):∀h nx,opA ts h o= .ok nx→∃v,nx= .val v h:=by
 intro h nx e
 cases o with
 |u1 u x=>
  cases u with
  |load n=>obtain ⟨v,_,rfl⟩:=Ch e;exact ⟨v,rfl⟩
  |len k=>
   obtain ⟨v,_,e⟩:=R.aM e
   cases e
   exact ⟨_,rfl⟩
  |_=>cases hc
 |b2 b x y=>
  cases b with
  |lookup kn z ok=>
   obtain ⟨_,_,e⟩:=R.aM e
   obtain ⟨_,_,e⟩:=R.aM e
   obtain ⟨r,_,e⟩:=R.aM e
   cases r with
   |none=>cases e;exact ⟨_,rfl⟩
   |some p=>obtain ⟨i,v⟩:=p;cases e;exact ⟨_,rfl⟩
  |_=>cases hc
 |u2 u x=>cases u<;>cases hc
 |o3 o=>cases o<;>cases hc
 |_=>cases hc
def Fm:jF→Prop
 | .recover=>False
 | .defer _=>False
 |_=>True
theorem Fm.out {nx:jF} (hh:Fm nx):nx≠ .recover∧∀d,nx≠ .defer d:=by
 cases nx<;>first|exact hh.elim|exact ⟨by simp,by simp⟩
theorem Qv {o:AOp} (hc:o.cls= .uK) {nx:jF} (e:opA ts h o= .ok nx):nx≠ .recover∧∀d,nx≠ .defer d:=by
 apply Fm.out
 cases o with
 |mov x=>cases hc
 |call f l=>
  simp only [opA] at e
  generalize ev ts f=y at e
  cases y<;>first|(cases e;done)|(cases e;trivial)
 |u1 u x=>
  cases u<;>try (cases hc;done)
  rename_i k
  cases k<;>cases hc
 |u2 u x=>
  simp only [opA] at e
  generalize ev ts x=y at e
  cases u<;>try (cases hc;done)
  ·simp only [kE,rH] at e
   split at e
   ·cases e;trivial
   ·cases e
  ·cases y<;>first|(cases e;done)|(cases e;trivial)
  ·simp only [kE,R9] at e
   split at e
   ·split at e
    ·unfold Jh at e
     split at e
     ·split at e
      ·cases e;trivial
      ·cases e
     ·cases e;trivial
    ·cases e
   ·cases e
  ·cases y<;>first|(cases e;done)|(cases e;trivial)
 |b2 b x y=>
  cases b<;>try (cases hc;done)
  ·obtain ⟨_,_,e⟩:=R.aM e
   cases e;trivial
  ·simp only [opA,qT,Bm] at e
   split at e
   ·split at e
    ·cases e;trivial
    ·cases e
   ·cases e
  ·obtain ⟨⟨_,_⟩,_,e⟩:=R.aM e
   cases e;trivial
 |o3 o=>
  cases o<;>try (cases hc;done)
  ·cases e;trivial
  ·simp only [opA,pL,lQ] at e
   split at e
   ·split at e
    ·obtain ⟨_,_,e⟩:=R.aM e
     obtain ⟨r,_,e⟩:=R.aM e
     cases r with
     |none=>cases e;trivial
     |some p=>obtain ⟨i,v⟩:=p;cases e;trivial
    ·cases e
   ·cases e
variable {rec:Task→R Ans} {rd:Option Nat} {o:lI} {d:List vM} {rc:RC}
theorem JK {c:DCl} (hc:o.cls=c) (hb:c≠ .bad):o.op.cls=c:=by
 unfold lI.cls at hc
 split at hc
 ·exact absurd hc.symm hb
 ·rename_i h1 h2
  exact hc
theorem HW (hc:o.cls= .soft) {v:AV} (e:iW ts h o= .ok v):iW ts h' o= .ok v:=by
 unfold iW at e⊢
 obtain ⟨w,hw,e⟩:=R.aM e
 rw [hw]
 cases w with
 |false=>exact e
 |true=>
  obtain ⟨nx,hn,e⟩:=R.aM e
  obtain ⟨u,rfl,h2⟩:=Du (JK hc (by simp)) h h' nx hn
  cases e
  simp only [R.bind,h2,jO]
theorem Df (hc:o.cls= .soft∨o.cls= .look) {v:AV} (e:iW ts h o= .ok v):dJ rec rd o ⟨ts,d,rc,h⟩= .ok (.normal,⟨mC o.dst v ts,d,rc,h⟩):=by
 unfold iW at e
 unfold dJ
 obtain ⟨w,hw,e⟩:=R.aM e
 simp only [hw]
 cases w with
 |false=>cases e;rfl
 |true=>
  obtain ⟨nx,hn,e⟩:=R.aM e
  have:∃u,nx= .val u h:=by
   rcases hc with hc|hc
   ·obtain ⟨u,h1,_⟩:=Du (JK hc (by simp)) h h nx hn
    exact ⟨u,h1⟩
   ·exact HK (JK hc (by simp)) h nx hn
  obtain ⟨u,rfl⟩:=this
  cases e
  simp only [R.bind,hn]
  rfl
theorem A4 (hc:o.cls= .uK) {y:Exit} {s' :St} (e:dJ rec rd o ⟨ts,d,rc,h⟩= .ok (y,s')):
  (∃v h',y= .normal∧s' =⟨mC o.dst v ts,d,rc,h'⟩∧∀ts',xZ ts ts' o.uV→dJ rec rd o ⟨ts',d,rc,h⟩= .ok (.normal,⟨mC o.dst v ts',d,rc,h'⟩))∨
  (∃ch h',y= .panic ch∧s' =⟨ts,d,rc,h'⟩∧∀ts',xZ ts ts' o.uV→dJ rec rd o ⟨ts',d,rc,h⟩= .ok (.panic ch,⟨ts',d,rc,h'⟩)):=by
 have hcop:=JK hc (by simp)
 have key:∀ts',xZ ts ts' o.uV→dJ rec rd o ⟨ts',d,rc,h⟩=(iJ ts o.guard).bind fun w=>match w with
   |false=>qM o ⟨ts',d,rc,h⟩ jC h
   |true=>(opA ts h o.op).bind (fP rec rd o ⟨ts',d,rc,h⟩):=fun ts' A=>by
  unfold dJ
  simp only
  rw [←De A.left,←Il (h:=h) A.right]
  rfl
 unfold dJ at e
 obtain ⟨w,hw,e⟩:=R.aM e
 simp only at hw
 cases w with
 |false=>
  cases e
  exact .inl ⟨jC,h,rfl,rfl,fun ts' A=>by rw [key ts' A,hw];rfl⟩
 |true=>
  obtain ⟨nx,hn,e⟩:=R.aM e
  simp only at hn
  obtain ⟨hr1,hr2⟩:=Qv hcop hn
  have Ni:∀ts',xZ ts ts' o.uV→dJ rec rd o ⟨ts',d,rc,h⟩=fP rec rd o ⟨ts',d,rc,h⟩ nx:=fun ts' A=>by
   rw [key ts' A,hw]
   simp only [R.bind,hn]
  cases nx with
  |val v h1=>cases e;exact .inl ⟨v,h1,rfl,rfl,fun ts' A=>by rw [Ni ts' A];rfl⟩
  |skip h1=>cases e;exact .inl ⟨jC,h1,rfl,rfl,fun ts' A=>by rw [Ni ts' A];rfl⟩
  |defer d=>exact absurd rfl (hr2 d)
  |recover=>exact absurd rfl hr1
  |panic v=>cases e;exact .inr ⟨_,h,rfl,rfl,fun ts' A=>by rw [Ni ts' A];rfl⟩
  |enter f args=>
   obtain ⟨ans,ha,e⟩:=R.aM e
   simp only at ha
   cases ans with
   |code x s=>cases e
   |call x rc' h1=>
    cases x with
    |ret v=>cases e;exact .inl ⟨v,h1,rfl,rfl,fun ts' A=>by rw [Ni ts' A];simp only [fP,ha,R.bind];rfl⟩
    |panic ch=>cases e;exact .inr ⟨ch,h1,rfl,rfl,fun ts' A=>by rw [Ni ts' A];simp only [fP,ha,R.bind];rfl⟩
  |round l args=>
   obtain ⟨ans,ha,e⟩:=R.aM e
   simp only at ha
   cases ans with
   |code x s=>cases e
   |call x rc' h1=>
    cases x with
    |ret v=>cases e;exact .inl ⟨v,h1,rfl,rfl,fun ts' A=>by rw [Ni ts' A];simp only [fP,ha,R.bind];rfl⟩
    |panic ch=>cases e;exact .inr ⟨ch,h1,rfl,rfl,fun ts' A=>by rw [Ni ts' A];simp only [fP,ha,R.bind];rfl⟩
end Go.Am
namespace Go.Am
variable {rec:Task→R Ans} {rd:Option Nat} {d:List vM} {rc:RC}
def CU (o:oL):Bool:=match o.k with
 | .uK _=>true
 |_=>false
def vV (o:oL):Bool:=match o.k with
 | .pre _ _=>true
 |_=>false
def hc (l:List oL) (i:Nat):Nat:=((l.take i).filter CU).length
def pc (l:List oL) (i:Nat):Nat:=((l.take i).filter vV).length
def CI (o:oL):Prop:=match o.k with
 | .soft=>o.o.cls= .soft
 | .look _=>o.o.cls= .look
 | .uK _=>o.o.cls= .uK
 | .pre zero _=>o.o.cls= .pre zero
def yA:fN→List oL→List (Option AV)→Nat→fN
 |ts,op::l,some v::jW,i+1=>yA (mC op.o.dst v ts) l jW i
 |ts,_::l,none::jW,i+1=>yA ts l jW i
 |ts,_,_,_=>ts
def Vd (jW:List (Option AV)) (i:Nat):Prop:=∃v,jW[i]? =some (some v)
def Fact (rec:Task→R Ans) (rd:Option Nat) (d:List vM) (rc:RC) (V:List aD) (op:oL) (v:AV) (ts:fN) (k q:Nat):Prop:=match op.k with
 | .soft=>∃g,iW ts g op.o= .ok v
 | .look win=>∀j∈win,∀g,V[j]? =some g→iW ts g op.o= .ok v
 | .uK _=>∃g g',V[k]? =some g∧V[k+1]? =some g' ∧dJ rec rd op.o ⟨ts,d,rc,g⟩= .ok (.normal,⟨mC op.o.dst v ts,d,rc,g'⟩)
 | .pre zero win=>v= .ptr q 0∧∀j∈win,∀g,V[j]? =some g→g.get q=some (.cells zero)
structure Fu (rec:Task→R Ans) (rd:Option Nat) (d:List vM) (rc:RC) (V:List aD) (ts:fN) (l:List oL) (k q:Nat) (jW:List (Option AV)):Prop where
 fact:∀i v,jW[i]? =some (some v)→∃op,l[i]? =some op∧Fact rec rd d rc V op v (yA ts l jW i) (k+hc l i) (q+pc l i)
theorem DE {V:List aD}:∀{l:List Dd},lT V l=true→∀r∈l,pK V r=true:=by
 intro l
 induction l with
 |nil=>intro _ r hr;cases hr
 |cons x l ih=>
  intro e r hr
  simp only [lT] at e
  split at e
  ·rename_i h1
   cases hr with
   |head=>exact h1
   |tail _ hr=>exact ih e r hr
  ·cases e
theorem Hw {f:Nat→Bool}:∀{l:List Nat},mJ f l=true→∀k∈l,f k=true:=by
 intro l
 induction l with
 |nil=>intro _ r hr;cases hr
 |cons x l ih=>
  intro e r hr
  simp only [mJ] at e
  split at e
  ·rename_i h1
   cases hr with
   |head=>exact h1
   |tail _ hr=>exact ih e r hr
  ·cases e
def Out (rec:Task→R Ans) (rd:Option Nat) (d:List vM) (rc:RC) (V:List aD) (ts:fN) (l:List oL) (k:Nat) (jW:List (Option AV)) (r:J6):Prop:=
 (r.x= .normal∧(∀i,i<l.length→Vd jW i)∧(∃g,r.s=⟨yA ts l jW l.length,d,rc,g⟩∧V[k+hc l l.length]? =some g))∨
 (∃p ch g g' op fr,r.x= .panic ch∧(∃ts',r.s=⟨ts',d,rc,g'⟩)∧l[p]? =some op∧op.k= .uK fr∧V[k+hc l p]? =some g∧
  dJ rec rd op.o ⟨yA ts l jW p,d,rc,g⟩= .ok (.panic ch,⟨yA ts l jW p,d,rc,g'⟩)∧¬Vd jW p∧(∀i,i<p→Vd jW i)∧∀i,fr[i]? =some true→p+1+i<l.length→Vd jW (p+1+i))
theorem Ga (o:oL) (l:List oL) (i:Nat):hc (o::l) (i+1)=(if CU o then 1 else 0)+hc l i:=by
 simp only [hc,List.take_succ_cons,List.filter_cons]
 split<;>simp<;>omega
theorem Ef (o:oL) (l:List oL) (i:Nat):pc (o::l) (i+1)=(if vV o then 1 else 0)+pc l i:=by
 simp only [pc,List.take_succ_cons,List.filter_cons]
 split<;>simp<;>omega
theorem B3 {v:Option AV} {jW:List (Option AV)} {i:Nat}:Vd (v::jW) (i+1)↔Vd jW i:=by
 unfold Vd;simp
theorem J1 {v:AV} {jW:List (Option AV)}:Vd (some v::jW) 0:=⟨v,rfl⟩
theorem VE {jW:List (Option AV)}:¬Vd (none::jW) 0:=by
 rintro ⟨v,h⟩;simp at h
theorem Kx {V:List aD} {ts:fN} {o:lI} {v:AV} {win:List Nat} (this:pK V (.look ts o v win)=true):∀j∈win,∀g,V[j]? =some g→iW ts g o= .ok v:=by
 intro j hj g hg
 have h1:=Hw this j hj
 rw [yU,hg] at h1
 simp only [jU] at h1
 split at h1
 ·rename_i u hu
  rw [hu,Pg _ _ _ h1]
 ·cases h1
theorem Oq {V:List aD} {q:Nat} {zero:List AV} {win:List Nat} (this:pK V (.pre q zero win)=true):∀j∈win,∀g,V[j]? =some g→g.get q=some (.cells zero):=by
 intro j hj g hg
 have h1:=Hw this j hj
 rw [yU,hg] at h1
 simp only [iV] at h1
 split at h1
 ·rename_i cs hcs
  rw [hcs,←Ub (Pg _) _ _ h1]
 ·cases h1
theorem RG (V:List aD) (g:aD):∀(fr:List Bool) (l:List oL) (q:Nat) (rs rs' :List Dd) (ts:fN),pH g fr l q rs ts= .ok rs' →(∃nr,rs' =nr++rs)∧((∀x∈rs',pK V x=true)→
  ∃jW:List (Option AV),(∀i v,jW[i]? =some (some v)→∃op,l[i]? =some op∧∀k,Fact rec rd d rc V op v (yA ts l jW i) k (q+pc l i))∧∀i,fr[i]? =some true→i<l.length→Vd jW i):=by
 intro fr
 induction fr with
 |nil=>
  intro l q rs rs' ts e
  cases l<;>(cases e;exact ⟨⟨[],rfl⟩,fun _=>⟨[],fun i v h=>by simp at h,fun i h=>by simp at h⟩⟩)
 |cons b fr ih=>
  intro l q rs rs' ts e
  cases l with
  |nil=>
   have e:R.ok rs=R.ok rs' :=by cases b<;>exact e
   cases e
   exact ⟨⟨[],rfl⟩,fun _=>⟨[],fun i v h=>by simp at h,fun i _ h=>by simp at h⟩⟩
  |cons op l=>
   obtain ⟨o,kd⟩:=op
   cases b with
   |false=>
    have skip:∀q',pH g fr l q' rs ts= .ok rs' →q' =q+(if vV ⟨o,kd⟩ then 1 else 0)→(∃nr,rs' =nr++rs)∧((∀x∈rs',pK V x=true)→
      ∃jW:List (Option AV),(∀i v,jW[i]? =some (some v)→∃op,(⟨o,kd⟩::l)[i]? =some op∧∀k,Fact rec rd d rc V op v (yA ts (⟨o,kd⟩::l) jW i) k (q+pc (⟨o,kd⟩::l) i))∧∀i,(false::fr)[i]? =some true→i<(⟨o,kd⟩::l:List oL).length→Vd jW i):=by
     intro q' e hq
     obtain ⟨h1,h2⟩:=ih l q' rs rs' ts e
     refine ⟨h1,fun hR=> ?_⟩
     obtain ⟨jW,h3,h4⟩:=h2 hR
     refine ⟨none::jW,fun i v hv=> ?_,fun i hi hl=> ?_⟩
     ·cases i with
      |zero=>simp at hv
      |succ i=>
       obtain ⟨op,g1,g2⟩:=h3 i v (by simpa using hv)
       refine ⟨op,by simpa using g1,fun k=> ?_⟩
       have:=g2 k
       rw [hq] at this
       rw [Ef]
       simpa [Nat.add_assoc,yA] using this
     ·cases i with
      |zero=>simp at hi
      |succ i=>exact B3.2 (h4 i (by simpa using hi) (by simpa using hl))
    cases kd with
    |pre zero win=>exact skip (q+1) e rfl
    |soft=>exact skip q e rfl
    |look win=>exact skip q e rfl
    |uK fr' =>exact skip q e rfl
   |true=>
    have go:∀(v:AV) (q' :Nat) (x:List Dd),pH g fr l q' (x++rs) (mC o.dst v ts)= .ok rs' →q' =q+(if vV ⟨o,kd⟩ then 1 else 0)→((∀y∈x,pK V y=true)→∀k,Fact rec rd d rc V ⟨o,kd⟩ v ts k q)→(∃nr,rs' =nr++rs)∧((∀x∈rs',pK V x=true)→
      ∃jW:List (Option AV),(∀i v,jW[i]? =some (some v)→∃op,(⟨o,kd⟩::l)[i]? =some op∧∀k,Fact rec rd d rc V op v (yA ts (⟨o,kd⟩::l) jW i) k (q+pc (⟨o,kd⟩::l) i))∧∀i,(true::fr)[i]? =some true→i<(⟨o,kd⟩::l:List oL).length→Vd jW i):=by
     intro v q' x e hq hF
     obtain ⟨⟨nr,h1⟩,h2⟩:=ih l q' (x++rs) rs' _ e
     refine ⟨⟨nr++x,by rw [h1,List.append_assoc]⟩,fun hR=> ?_⟩
     obtain ⟨jW,h3,h4⟩:=h2 hR
     have hF:=hF (fun y hy=>hR y (by rw [h1];exact List.mem_append_right _ (List.mem_append_left _ hy)))
     refine ⟨some v::jW,fun i u hu=> ?_,fun i hi hl=> ?_⟩
     ·cases i with
      |zero=>
       simp at hu
       subst hu
       exact ⟨_,rfl,fun k=>by simpa [pc,yA] using hF k⟩
      |succ i=>
       obtain ⟨op,g1,g2⟩:=h3 i u (by simpa using hu)
       refine ⟨op,by simpa using g1,fun k=> ?_⟩
       have:=g2 k
       rw [hq] at this
       rw [Ef]
       simpa [Nat.add_assoc,yA] using this
     ·cases i with
      |zero=>exact J1
      |succ i=>exact B3.2 (h4 i (by simpa using hi) (by simpa using hl))
    cases kd with
    |soft=>
     obtain ⟨v,hv,e⟩:=R.aM (show (iW ts g o).bind _=_ from e)
     exact go v q [] e rfl (fun _ _=>⟨g,hv⟩)
    |look win=>
     obtain ⟨v,hv,e⟩:=R.aM (show (iW ts g o).bind _=_ from e)
     exact go v q [.look ts o v win] e rfl (fun h _=>Kx (h _ (by simp)))
    |uK fr' =>cases e
    |pre zero win=>exact go (.ptr q 0) (q+1) [.pre q zero win] e rfl (fun h _=>⟨rfl,Oq (h _ (by simp))⟩)
theorem Tz (V:List aD):∀(l:List oL) (q:Nat) (h:aD) (vs:List aD) (rs:List Dd) (ts:fN) (r:J6),(∀o∈l,CI o)→FJ rec rd l q (h::vs) rs ⟨ts,d,rc,h⟩= .ok r→V=r.vs.reverse→lT V r.rs=true→
  (∃nv nr,r.vs=nv++(h::vs)∧r.rs=nr++rs)∧∃jW,Fu rec rd d rc V ts l vs.length q jW∧Out rec rd d rc V ts l vs.length jW r:=by
 intro l
 induction l with
 |nil=>
  intro q h vs rs ts r _ e hV hR
  cases e
  refine ⟨⟨[],[],rfl,rfl⟩,[],⟨fun i v hv=>by simp at hv⟩,.inl ⟨rfl,fun i hi=>absurd hi (Nat.not_lt_zero i),⟨h,rfl, ?_⟩⟩⟩
  subst hV;simp [hc]
 |cons op l ih=>
  intro q h vs rs ts r hK e hV hR
  have hKo:=hK op (by simp)
  have hKl:∀o∈l,CI o:=fun o ho=>hK o (by simp [ho])
  obtain ⟨o,kd⟩:=op
  have lift:∀(v:AV) (q' n0 k0:Nat) (jW:List (Option AV)),(if CU ⟨o,kd⟩ then 1 else 0)=n0→k0=vs.length+n0→q' =q+(if vV ⟨o,kd⟩ then 1 else 0)→Fu rec rd d rc V (mC o.dst v ts) l k0 q' jW→Out rec rd d rc V (mC o.dst v ts) l k0 jW r→
    Fact rec rd d rc V ⟨o,kd⟩ v ts vs.length q→∃jW,Fu rec rd d rc V ts (⟨o,kd⟩::l) vs.length q jW∧Out rec rd d rc V ts (⟨o,kd⟩::l) vs.length jW r:=by
   intro v q' n0 k0 jW hh hk hq hL hO hF
   refine ⟨some v::jW,⟨fun i u hu=> ?_⟩, ?_⟩
   ·cases i with
    |zero=>
     simp at hu
     subst hu
     exact ⟨_,rfl,by simpa [hc,pc,yA] using hF⟩
    |succ i=>
     obtain ⟨op,g1,g2⟩:=hL.fact i u (by simpa using hu)
     refine ⟨op,by simpa using g1, ?_⟩
     rw [Ga,Ef,hh]
     rw [hq,hk] at g2
     simpa [Nat.add_assoc,yA] using g2
   ·rcases hO with ⟨o1,o2,⟨g,o3,o4⟩⟩|⟨p,ch,g,g',op,fr,o1,o2,o3,o4,o5,o6,o7,o8,o9⟩
    ·refine .inl ⟨o1,fun i hi=> ?_,⟨g,o3, ?_⟩⟩
     ·cases i with
      |zero=>exact J1
      |succ i=>exact B3.2 (o2 i (by simpa using hi))
     ·show V[vs.length+hc (⟨o,kd⟩::l) (l.length+1)]? =some g
      rw [Ga,hh];rw [hk] at o4;simpa [Nat.add_assoc] using o4
    ·refine .inr ⟨p+1,ch,g,g',op,fr,o1,o2,by simpa using o3,o4, ?_,by simpa [yA] using o6,fun w=>o7 (B3.1 w),fun i hi=> ?_,fun i hi hl=> ?_⟩
     ·rw [Ga,hh];rw [hk] at o5;simpa [Nat.add_assoc] using o5
     ·cases i with
      |zero=>exact J1
      |succ i=>exact B3.2 (o8 i om)
     ·have:=o9 i hi (by simp at hl;omega)
      rw [show p+1+1+i=(p+1+i)+1 by omega]
      exact B3.2 this
  have same:∀(v:AV) (q' :Nat) (rs' :List Dd),FJ rec rd l q' (h::vs) rs' ⟨mC o.dst v ts,d,rc,h⟩= .ok r→CU ⟨o,kd⟩=false→q' =q+(if vV ⟨o,kd⟩ then 1 else 0)→(∃x,rs' =x++rs)→
    ((∀x∈rs',x∈r.rs)→Fact rec rd d rc V ⟨o,kd⟩ v ts vs.length q)→
    (∃nv nr,r.vs=nv++(h::vs)∧r.rs=nr++rs)∧∃jW,Fu rec rd d rc V ts (⟨o,kd⟩::l) vs.length q jW∧Out rec rd d rc V ts (⟨o,kd⟩::l) vs.length jW r:=by
   intro v q' rs' e hh hq hx hF
   obtain ⟨⟨nv,nr,h1,h2⟩,jW,hL,hO⟩:=ih q' h vs rs' _ r hKl e hV hR
   obtain ⟨x,hx⟩:=hx
   have hF:=hF (fun y hy=>by rw [h2];exact List.mem_append_right _ hy)
   exact ⟨⟨nv,nr++x,h1,by rw [h2,hx,List.append_assoc]⟩,lift v q' 0 vs.length jW (by rw [hh];rfl) rfl hq hL hO hF⟩
  replace e:qD rec rd o l (FJ rec rd l) q (h::vs) rs ⟨ts,d,rc,h⟩ kd= .ok r:=e
  cases kd with
  |soft=>
   obtain ⟨v,hv,e⟩:=R.aM e
   exact same v q rs e rfl rfl ⟨[],rfl⟩ (fun _=>⟨h,hv⟩)
  |look win=>
   obtain ⟨v,hv,e⟩:=R.aM e
   refine same v q _ e rfl rfl ⟨[_],rfl⟩ (fun hm=>Kx (DE hR _ (hm (.look ts o v win) (by simp))))
  |pre zero win=>
   exact same (.ptr q 0) (q+1) _ e rfl rfl ⟨[_],rfl⟩ (fun hm=>⟨rfl,Oq (DE hR _ (hm (.pre q zero win) (by simp)))⟩)
  |uK fr=>
   obtain ⟨⟨y,s'⟩,hs,e⟩:=R.aM e
   rcases A4 hKo hs with ⟨v,h',rfl,rfl,_⟩|⟨ch,h',rfl,rfl,_⟩
   ·replace e:FJ rec rd l q (h' ::h::vs) rs ⟨mC o.dst v ts,d,rc,h'⟩= .ok r:=e
    obtain ⟨⟨nv,nr,h1,h2⟩,jW,hL,hO⟩:=ih q h' (h::vs) rs _ r hKl e hV hR
    refine ⟨⟨nv++[h'],nr,by rw [h1,List.append_assoc];rfl,h2⟩,lift v q 1 (vs.length+1) jW rfl rfl rfl hL hO ⟨h,h', ?_, ?_,hs⟩⟩
    ·rw [hV,h1];simp
    ·rw [hV,h1];simp
   ·replace e:(pH h fr l q rs ts).bind (fun rs' => .ok ⟨.panic ch,⟨ts,d,rc,h'⟩,h::vs,rs'⟩)= .ok r:=e
    obtain ⟨rs',hp,e⟩:=R.aM e
    cases e
    obtain ⟨⟨nr,h1⟩,h2⟩:=RG (rec:=rec) (rd:=rd) (d:=d) (rc:=rc) V h fr l q rs rs' ts hp
    obtain ⟨jW,h3,h4⟩:=h2 (fun x hx=>DE hR x hx)
    refine ⟨⟨[],nr,rfl,h1⟩,none::jW,⟨fun i v hv=> ?_⟩,.inr ⟨0,ch,h,h',⟨o,.uK fr⟩,fr,rfl,⟨ts,rfl⟩,rfl,rfl, ?_,by simpa [yA] using hs,VE,fun i hi=>absurd hi (Nat.not_lt_zero i),fun i hi hl=> ?_⟩⟩
    ·cases i with
     |zero=>simp at hv
     |succ i=>
      obtain ⟨op,g1,g2⟩:=h3 i v (by simpa using hv)
      refine ⟨op,by simpa using g1, ?_⟩
      have:=g2 (vs.length+hc (⟨o,.uK fr⟩::l) (i+1))
      rw [Ef]
      simpa [vV,yA] using this
    ·subst hV;simp [hc]
    ·rw [show 0+1+i=i+1 by omega]
     exact B3.2 (h4 i hi (by simp at hl;omega))
theorem BE {t:Nat}:∀(l:List oL) (jW:List (Option AV)) (ts:fN) (i:Nat),(∀j op,j<i→l[j]? =some op→op.o.dst≠some t)→cH (yA ts l jW i) t=cH ts t:=by
 intro l
 induction l with
 |nil=>intro jW ts i _;cases jW<;>cases i<;>rfl
 |cons op l ih=>
  intro jW ts i hn
  cases jW with
  |nil=>cases i<;>rfl
  |cons v jW=>
   cases i with
   |zero=>cases v<;>rfl
   |succ i=>
    cases v with
    |none=>
     show cH (yA ts l jW i) t=_
     exact ih jW _ i (fun j o hj ho=>hn (j+1) o om (by simpa using ho))
    |some v=>
     show cH (yA (mC op.o.dst v ts) l jW i) t=_
     rw [ih jW _ i (fun j o hj ho=>hn (j+1) o om (by simpa using ho))]
     have:=hn 0 op om rfl
     cases hd:op.o.dst with
     |none=>rfl
     |some e=>
      show cH ((e,v)::ts) t=_
      rw [tV,if_neg (fun hh=>this (by rw [hd,hh]))]
theorem J9 {t:Nat} {v:AV}:∀(l:List oL) (jW:List (Option AV)) (ts:fN) (i j:Nat) (op:oL),j<i→l[j]? =some op→op.o.dst=some t→jW[j]? =some (some v)→
  (∀j' op',j<j' →j' <i→l[j']? =some op' →op'.o.dst≠some t)→cH (yA ts l jW i) t=v:=by
 intro l
 induction l with
 |nil=>intro jW ts i j op _ h;simp at h
 |cons op l ih=>
  intro jW ts i j o hji ho hd hv hn
  cases jW with
  |nil=>simp at hv
  |cons u jW=>
   cases i with
   |zero=>omega
   |succ i=>
    cases j with
    |zero=>
     simp at ho hv
     subst ho hv
     show cH (yA (mC op.o.dst v ts) l jW i) t=v
     rw [BE l jW _ i (fun j' op' hj' ho' =>hn (j' +1) op' om om (by simpa using ho')),hd]
     show cH ((t,v)::ts) t=v
     rw [tV,if_pos rfl]
    |succ j=>
     cases u with
     |none=>
      show cH (yA ts l jW i) t=v
      exact ih jW _ i j o om (by simpa using ho) hd (by simpa using hv) (fun j' op' h1 h2 h3=>hn (j' +1) op' om om (by simpa using h3))
     |some u=>
      show cH (yA (mC op.o.dst u ts) l jW i) t=v
      exact ih jW _ i j o om (by simpa using ho) hd (by simpa using hv) (fun j' op' h1 h2 h3=>hn (j' +1) op' om om (by simpa using h3))
end Go.Am
namespace Go.Am
theorem QC (acc:List Nat) (i:Nat):∀(es:List Edge) (s:Nat),(es.foldl (fun s e=>if Region.binds .any e then s|||2^e.on|||(acc[e.on]?).getD 0 else s) s).testBit i=true→
  s.testBit i=true∨∃e∈es,Region.binds .any e=true∧(e.on=i∨((acc[e.on]?).getD 0).testBit i=true):=by
 intro es
 induction es with
 |nil=>intro s h;exact .inl h
 |cons e es ih=>
  intro s h
  rcases ih _ h with h|⟨e',h1,h2⟩
  ·simp only at h
   split at h
   ·rename_i hb
    simp only [Nat.testBit_or,Bool.or_eq_true] at h
    rcases h with (h|h)|h
    ·exact .inl h
    ·refine .inr ⟨e,by simp,hb,.inl ?_⟩
     rw [Nat.testBit_two_pow] at h
     exact of_decide_eq_true h
    ·exact .inr ⟨e,by simp,hb,.inr h⟩
   ·exact .inl h
  ·exact .inr ⟨e',by simp [h1],h2⟩
theorem Ir:∀(l:List Oper) (acc:List Nat) (j:Nat),j<acc.length→(zO l acc)[j]? =acc[j]? :=by
 intro l
 induction l with
 |nil=>intro acc j _;rfl
 |cons o r ih=>
  intro acc j hj
  simp only [zO]
  rw [ih _ _ (by simp;omega),List.getElem?_append_left hj]
theorem Sn:∀(l:List Oper) (acc:List Nat) (t:Nat) (o:Oper),l[t]? =some o→∃pre,(zO l acc)[acc.length+t]? =some (Na pre o.after.toList)∧pre.length=acc.length+t∧∀j,j<pre.length→(zO l acc)[j]? =pre[j]? :=by
 intro l
 induction l with
 |nil=>intro acc t o h;simp at h
 |cons x r ih=>
  intro acc t o h
  cases t with
  |zero=>
   simp at h
   subst h
   refine ⟨acc, ?_,by simp,fun j hj=>Ir _ _ _ hj⟩
   simp only [zO,Nat.add_zero]
   rw [Ir _ _ _ (by simp)]
   simp
  |succ t=>
   obtain ⟨pre,h1,h2,h3⟩:=ih (acc++[Na acc x.after.toList]) t o (by simpa using h)
   refine ⟨pre, ?_, ?_, ?_⟩
   ·simp only [zO]
    rw [←h1]
    congr 1
    simp;omega
   ·rw [h2];simp;omega
   ·intro j hj;simp only [zO];exact h3 j hj
theorem TX {ops:List Oper} {j i:Nat} {o:Oper} (ho:ops[j]? =some o) (h:bit (zO ops []) j i=true):
  ∃e∈o.after.toList,Region.binds .any e=true∧(e.on=i∨(e.on<j∧bit (zO ops []) e.on i=true)):=by
 obtain ⟨pre,h1,h2,h3⟩:=Sn ops [] j o ho
 simp only [List.length_nil,Nat.zero_add] at h1 h2
 unfold bit at h
 rw [h1] at h
 rcases QC pre i _ _ h with h|⟨e,he,hb,h⟩
 ·simp at h
 ·refine ⟨e,he,hb, ?_⟩
  rcases h with h|h
  ·exact .inl h
  ·right
   by_cases hlt:e.on<pre.length
   ·refine ⟨by omega, ?_⟩
    unfold bit
    rw [h3 _ hlt]
    exact h
   ·rw [List.getElem?_eq_none om] at h
    simp at h
theorem TZ {ops:List Oper} {j i:Nat} (h:bit (zO ops []) j i=true):j<ops.length:=by
 by_cases hj:j<ops.length
 ·exact hj
 ·exfalso
  have hlen:∀(l:List Oper) (acc:List Nat),(zO l acc).length=acc.length+l.length:=by
   intro l
   induction l with
   |nil=>intro acc;rfl
   |cons o r ih=>intro acc;simp only [zO];rw [ih];simp;omega
  unfold bit at h
  rw [List.getElem?_eq_none (by rw [hlen];simp;omega)] at h
  simp at h
theorem Lb {ops:List Oper} {S:Nat→Prop} (hS:∀j o,S j→ops[j]? =some o→∀e∈o.after.toList,Region.binds .any e=true→S e.on):
  ∀(j:Nat) (o:Oper),ops[j]? =some o→(∀e∈o.after.toList,Region.binds .any e=true→S e.on)→∀i,bit (zO ops []) j i=true→S i:=by
 intro j
 induction j using Nat.strongRecOn with
 |ind j ih=>
  intro o ho he i hb
  obtain ⟨e,h1,h2,h3⟩:=TX ho hb
  rcases h3 with rfl|⟨h3,h4⟩
  ·exact he e h1 h2
  ·have hSe:=he e h1 h2
   have hlt:e.on<ops.length:=TZ h4
   exact ih e.on h3 ops[e.on] (List.getElem?_eq_getElem hlt) (hS e.on _ hSe (List.getElem?_eq_getElem hlt)) i h4
def uN (o:lI):Bool:=match o.cls with
 | .uK=>true
 |_=>false
def hcl (l:List lI) (i:Nat):Nat:=((l.take i).filter uN).length
theorem Cu (o:lI) (l:List lI) (i:Nat):hcl (o::l) (i+1)=(if uN o then 1 else 0)+hcl l i:=by
 simp only [hcl,List.take_succ_cons,List.filter_cons]
 split<;>simp<;>omega
theorem BN (o:lI) (l:List lI) (i:Nat):wS (o::l) i=if uN o then i::wS l (i+1) else wS l (i+1):=by
 simp only [wS,uN]
 split<;>simp_all
theorem FH:∀(l:List lI) (i0 t:Nat) (o:lI),l[t]? =some o→uN o=true→(wS l i0)[hcl l t]? =some (i0+t):=by
 intro l
 induction l with
 |nil=>intro i0 t o h;simp at h
 |cons x r ih=>
  intro i0 t o h hh
  rw [BN]
  cases t with
  |zero=>simp at h;subst h;rw [hh];simp [hcl]
  |succ t=>
   have:=ih (i0+1) t o (by simpa using h) hh
   rw [Cu]
   split
   ·rw [Nat.add_comm 1,List.getElem?_cons_succ,this];congr 1;omega
   ·rw [Nat.zero_add,this];congr 1;omega
theorem Cv:∀(l:List lI) (i0 r x:Nat),(wS l i0)[r]? =some x→∃t o,x=i0+t∧l[t]? =some o∧uN o=true∧hcl l t=r:=by
 intro l
 induction l with
 |nil=>intro i0 r x h;simp [wS] at h
 |cons o l ih=>
  intro i0 r x h
  rw [BN] at h
  split at h
  ·rename_i hh
   cases r with
   |zero=>simp at h;exact ⟨0,o,by omega,rfl,hh,by simp [hcl]⟩
   |succ r=>
    obtain ⟨t,o',h1,h2,h3,h4⟩:=ih (i0+1) r x (by simpa using h)
    exact ⟨t+1,o',by omega,by simpa using h2,h3,by rw [Cu,if_pos hh,h4];omega⟩
  ·rename_i hh
   obtain ⟨t,o',h1,h2,h3,h4⟩:=ih (i0+1) r x h
   exact ⟨t+1,o',by omega,by simpa using h2,h3,by rw [Cu,if_neg hh,h4];omega⟩
theorem G5:∀(l:List lI) (i0:Nat),(wS l i0).length=hcl l l.length:=by
 intro l
 induction l with
 |nil=>intro i0;rfl
 |cons o l ih=>
  intro i0
  rw [BN]
  show _=hcl (o::l) (l.length+1)
  rw [Cu,←ih (i0+1)]
  split<;>simp;omega
theorem ND (n:Nat) (ms hs:List Nat):∀(l:List lI) (i0 t:Nat),(yX n ms hs l i0)[t]? =(l[t]?).map fun o=>⟨o,Hg n ms hs o (i0+t)⟩:=by
 intro l
 induction l with
 |nil=>intro i0 t;simp [yX]
 |cons o l ih=>
  intro i0 t
  simp only [yX]
  cases t with
  |zero=>simp
  |succ t=>
   rw [List.getElem?_cons_succ,ih,List.getElem?_cons_succ]
   have:i0+1+t=i0+(t+1):=om
   rw [this]
theorem Dr (n:Nat) (ms hs:List Nat):∀(l:List lI) (i0:Nat),(yX n ms hs l i0).length=l.length:=by
 intro l
 induction l with
 |nil=>intro i0;rfl
 |cons o l ih=>intro i0;simp [yX,ih]
theorem Nk (n:Nat) (ms hs:List Nat) (o:lI) (i:Nat):CU ⟨o,Hg n ms hs o i⟩=uN o:=by
 unfold CU uN Hg
 cases o.cls<;>rfl
theorem Fg (n:Nat) (ms hs:List Nat):∀(l:List lI) (i0 t:Nat),hc (yX n ms hs l i0) t=hcl l t:=by
 intro l
 induction l with
 |nil=>intro i0 t;simp [yX,hc,hcl]
 |cons o l ih=>
  intro i0 t
  cases t with
  |zero=>rfl
  |succ t=>
   simp only [yX]
   rw [Ga,Cu,Nk,ih]
theorem Cx (n:Nat) (ms hs:List Nat):∀(l:List lI) (i0:Nat),l.all Ji=true→∀o∈yX n ms hs l i0,CI o:=by
 intro l
 induction l with
 |nil=>intro i0 _ o ho;cases ho
 |cons x l ih=>
  intro i0 h o ho
  simp only [List.all_cons,Bool.and_eq_true] at h
  simp only [yX] at ho
  cases ho with
  |head=>
   have hb:=h.1
   unfold CI Hg
   unfold Ji at hb
   cases hc:x.cls<;>simp_all
  |tail _ ho=>exact ih (i0+1) h.2 o ho
theorem FL {ms:List Nat}:∀{hs:List Nat},EC ms hs=true→∀(r r' a b:Nat),r<r' →hs[r]? =some a→hs[r']? =some b→bit ms b a=true:=by
 intro hs
 induction hs with
 |nil=>intro _ r r' a b _ h;simp at h
 |cons x hs ih=>
  intro h r r' a b hlt ha hb
  simp only [EC,Bool.and_eq_true] at h
  cases r' with
  |zero=>omega
  |succ r' =>
   have hb' :hs[r']? =some b:=by simpa using hb
   cases r with
   |zero=>
    simp at ha
    subst ha
    exact List.all_eq_true.1 h.1 b (List.mem_of_getElem? hb')
   |succ r=>exact ih h.2 r r' a b om (by simpa using ha) hb'
theorem BC {ms:List Nat} {l:List lI} {i j d:Nat} {o p:lI} (h:Mt ms l i o=true) (hp:l[j]? =some p) (hd:p.dst=some d) (hij:i≠j):
  o.dst≠some d∧(d∈o.uV→if j<i then bit ms i j=true else bit ms j i=true):=by
 have:=List.all_eq_true.1 h (p,j) (by rw [List.mem_zipIdx_iff_getElem?];exact hp)
 simp only [hd] at this
 have hne:Nat.beq i j=false:=by
  cases hb:Nat.beq i j with
  |false=>rfl
  |true=>exact absurd (Nat.eq_of_beq_eq_true hb) hij
 rw [hne,Bool.false_or,Bool.and_eq_true] at this
 obtain ⟨h1,h2⟩:=this
 constructor
 ·intro hh
  rw [hh] at h1
  simp at h1
 ·intro hm
  have hany:(o.uV.any fun t=>Nat.beq t d)=true:=List.any_eq_true.2 ⟨d,hm,Nat.beq_refl d⟩
  rw [hany] at h2
  simp only [Bool.not_true,Bool.false_or] at h2
  split at h2<;>(rename_i hlt;simp [hlt,h2])
theorem Jc {l:List oL} {i j:Nat} {op:oL} (hij:i<j) (ho:l[i]? =some op) (hp:vV op=true):pc l i<pc l j:=by
 have h1:pc l (i+1)=pc l i+1:=by
  have hlt:i<l.length:=(List.getElem?_eq_some_iff.1 ho).1
  have:l.take (i+1)=l.take i++[op]:=by rw [List.take_add_one,ho];rfl
  simp only [pc,this,List.filter_append,List.length_append]
  simp [hp]
 have h2:pc l (i+1)≤pc l j:=by
  have:l.take (i+1)=(l.take j).take (i+1):=by rw [List.take_take];congr 1;omega
  unfold pc
  rw [this]
  exact (List.Sublist.filter _ (List.take_sublist _ _)).length_le
 omega
end Go.Am
namespace Go.Am
open Go.RowKit
variable {P:Program} {genv:Nat→Option (List AV)} {B:Nat} {w₀:World} {h:aD} {m:Mem} {w:World}
theorem WR.Y6 (W:WR P genv B w₀ h m w) {id:Nat} (hid:m.ρ id=none) {o:AO} (hg:h.get id=some o) (hto:∀n,o≠ .tok n) (r:Obj) (hr:OR P genv (m.box id w.heap.size) o r):
  WR P genv B w₀ h (m.box id w.heap.size) (w.alloc r):=by
 have hle:=DI W id w.heap.size hid
 have hρ:∀i b,(m.box id w.heap.size).ρ i=some b→(i=id∧b=w.heap.size)∨(m.ρ i=some b∧i≠id∧b<w.heap.size):=fun i b e=>by
  simp only [Mem.box] at e
  split at e
  ·cases e;exact .inl ⟨by assumption,rfl⟩
  ·rename_i hne
   exact .inr ⟨e,hne,(W.lt i b e).2.2⟩
 refine ⟨W.below.alloc W.size _,by simp;have:=W.size;omega,fun i j b hi hj=> ?_,fun i b hi=> ?_,fun i b hi=> ?_,fun c o v e' => ?_,fun i b o' hi=> ?_,fun c t sz e' => ?_,fun g cs e' => ?_⟩
 ·rcases hρ i b hi with ⟨rfl,rfl⟩|⟨h1,h2,h3⟩<;>rcases hρ j _ hj with ⟨rfl,hb⟩|⟨k1,k2,k3⟩
  ·rfl
  ·exact absurd k3 om
  ·subst hb;exact absurd h3 om
  ·exact W.inj i j b h1 k1
 ·rcases hρ i b hi with ⟨rfl,rfl⟩|⟨h1,h2,h3⟩
  ·exact ⟨aD.mN hg,W.size,by simp⟩
  ·obtain ⟨q1,q2,q3⟩:=W.lt i b h1
   exact ⟨q1,q2,by simp;omega⟩
 ·rcases hρ i b hi with ⟨rfl,rfl⟩|⟨h1,h2,h3⟩
  ·exact ⟨o,r,hg,heap_alloc_new w r,hr⟩
  ·obtain ⟨o',r',q1,q2,q3⟩:=W.obj i b h1
   exact ⟨o',r',q1,by rw [oP w r b h3];exact q2,q3.mono hle⟩
 ·have h1:=W.imm c o v e'
  have hlt:=World.block_lt_of_cell? w _ h1
  rw [←h1]
  exact uL (oP w r c hlt)
 ·rcases hρ i b hi with ⟨rfl,rfl⟩|⟨h1,h2,h3⟩
  ·exact W.CV o'
  ·exact W.apart i b o' h1
 ·obtain ⟨h1,h2,h3,n,h4,h5,cs,e,h6,h7⟩:=W.own c t sz e'
  have hclt:=(W.Ay e').1
  have SJ:t≠id:=fun hh=>by subst hh;rw [hg] at h4;cases h4;exact hto n rfl
  refine ⟨h1,by simp only [Mem.box];rw [if_neg SJ];exact h2,fun i hi=> ?_,n,h4,h5,cs,e,by rw [oP w r c hclt];exact h6,h7⟩
  rcases hρ i c hi with ⟨rfl,rfl⟩|⟨q1,q2,q3⟩
  ·omega
  ·exact h3 i q1
 ·obtain ⟨vs,h1,h2⟩:=W.Eu g cs e'
  exact ⟨vs,h1.mono hle,h2⟩
theorem WR.RE (W:WR P genv B w₀ h m w) (o:AO):WR P genv B w₀ (h.push o) m w:=by
 have Db:∀i,i<h.next→(h.push o).get i=h.get i:=fun i hi=>by rw [aD.Tc,if_neg om]
 refine ⟨W.below,W.size,W.inj,fun i b hi=> ?_,fun i b hi=> ?_,W.imm,W.apart,fun c t sz e' => ?_,W.Eu⟩
 ·obtain ⟨q1,q2,q3⟩:=W.lt i b hi
  exact ⟨by simp;omega,q2,q3⟩
 ·obtain ⟨o',r',q1,q2,q3⟩:=W.obj i b hi
  exact ⟨o',r',by rw [Db i (W.lt i b hi).1];exact q1,q2,q3⟩
 ·obtain ⟨h1,h2,h3,n,h4,h5⟩:=W.own c t sz e'
  exact ⟨h1,h2,h3,n,by rw [Db t (W.Ay e').2];exact h4,h5⟩
theorem WR.rV (l:List oL):∀{h:aD},WR P genv B w₀ h m w→WR P genv B w₀ (rV l h) m w∧h.next≤(rV l h).next:=by
 induction l with
 |nil=>intro h W;exact ⟨W,Nat.le_refl _⟩
 |cons o l ih=>
  intro h W
  obtain ⟨o,k⟩:=o
  cases k with
  |pre zero win=>
   obtain ⟨h1,h2⟩:=ih (W.RE (.cells zero))
   exact ⟨h1,Nat.le_trans (by simp) h2⟩
  |_=>exact ih W
theorem BP {l:Array Bool} {i:Nat} (hi:i<l.size) (j:Nat):(l.setIfInBounds i true).getD j false=true↔(j=i∨l.getD j false=true):=by
 by_cases h:j=i
 ·subst h;simp [hi]
 ·have:(l.setIfInBounds i true).getD j false=l.getD j false:=by simp [Array.getElem?_setIfInBounds_ne (fun hh=>h hh.symm)]
  rw [this];simp [h]
section
variable (P:Program) (genv:Nat→Option (List AV)) (B:Nat) (w₀:World) (n:Nat) (ops:Array Oper)
def lOf:List lI:=ops.toList.map (mV P genv n ops)
def DF:List Nat:=zO ops.toList []
def Ap:List Nat:=wS (lOf P genv n ops) 0
def LOf:List oL:=yX (lOf P genv n ops).length (DF ops) (Ap P genv n ops) (lOf P genv n ops) 0
structure EP (V:List aD) (jW:List (Option AV)) (s0:St) (m0:Mem) (b:Frame) (cs0:List Frame) (listed:Array Bool) (k:Nat) (m:Mem) (w:World) (a:Act) (cs:List Frame) (ts:fN):Prop where
 size:listed.size=ops.size
 closed:∀i o,listed.getD i false=true→ops.toList[i]? =some o→∀e∈o.after.toList,Region.binds .any e=true→listed.getD e.on false=true
 kle:k≤(Ap P genv n ops).length
 uK:∀(r i:Nat),(Ap P genv n ops)[r]? =some i→(listed.getD i false=true↔r<k)
 ran:∀i,listed.getD i false=true→Vd jW i
 tmps:TR m ts a.tmps
 put:∀i op t v,listed.getD i false=true→(LOf P genv n ops)[i]? =some op→op.o.dst=some t→jW[i]? =some (some v)→cH ts t=v
 other:∀t,(∀i op,listed.getD i false=true→(LOf P genv n ops)[i]? =some op→op.o.dst≠some t)→cH ts t=cH s0.tmps t
 asz:n≤a.tmps.size
 defs:DL m s0.defers a.defers
 kr:KR m b.kind cs0 s0.rc cs
 heap:∃g,V[k]? =some g∧WR P genv B w₀ g m w∧s0.heap.next+pc (LOf P genv n ops) (LOf P genv n ops).length≤g.next
 ext:∀i,i<s0.heap.next→m.ρ i=m0.ρ i
 le:m0.Le m
 fresh:∀i op,listed.getD i false=false→(LOf P genv n ops)[i]? =some op→vV op=true→m.ρ (s0.heap.next+pc (LOf P genv n ops) i)=none
end
section
variable {n:Nat} {ops:Array Oper} {V:List aD} {jW:List (Option AV)} {s0:St} {m0:Mem} {b:Frame} {cs0 cs:List Frame} {listed:Array Bool} {k:Nat} {a:Act} {ts:fN}
theorem B7 {i:Nat} {o:Oper} (ho:ops.toList[i]? =some o):(LOf P genv n ops)[i]? =some ⟨mV P genv n ops o,Hg (lOf P genv n ops).length (DF ops) (Ap P genv n ops) (mV P genv n ops o) i⟩:=by
 simp only [LOf,ND,Nat.zero_add]
 rw [lOf,List.getElem?_map,ho];rfl
theorem wQ {i:Nat} {o:Oper} (ho:ops.toList[i]? =some o):(lOf P genv n ops)[i]? =some (mV P genv n ops o):=by
 rw [lOf,List.getElem?_map,ho];rfl
theorem DM:(lOf P genv n ops).length=ops.size:=by simp [lOf]
theorem zD:(LOf P genv n ops).length=ops.size:=by rw [LOf,Dr,DM]
structure DOk (P:Program) (genv:Nat→Option (List AV)) (n:Nat) (ops:Array Oper):Prop where
 pre:∀(i:Nat) (o:Oper),ops.toList[i]? =some o→RF (o,mV P genv n ops o)=true
 bad:(lOf P genv n ops).all Ji=true
 uV:∀i o,(lOf P genv n ops)[i]? =some o→Mt (DF ops) (lOf P genv n ops) i o=true
 YS:∀i o,ops.toList[i]? =some o→O5 i o=true
 chain:EC (DF ops) (Ap P genv n ops)=true
theorem LN (h:NC ops.toList (lOf P genv n ops) (DF ops) (Ap P genv n ops)=true):DOk P genv n ops:=by
 simp only [NC,Bool.and_eq_true] at h
 obtain ⟨⟨⟨⟨h0,h1⟩,h2⟩,h3⟩,h4⟩:=h
 exact ⟨fun i o ho=>List.all_eq_true.1 h0 (o,mV P genv n ops o) (List.mem_of_getElem? (i:=i) (List.getElem?_zip_eq_some.2 ⟨ho,wQ ho⟩)),h1,fun i o ho=>List.all_eq_true.1 h2 (o,i) (by rw [List.mem_zipIdx_iff_getElem?];exact ho),fun i o ho=>List.all_eq_true.1 h3 (o,i) (by rw [List.mem_zipIdx_iff_getElem?];exact ho),h4⟩
theorem EP.mask (I:EP P genv B w₀ n ops V jW s0 m0 b cs0 listed k m w a cs ts) {i:Nat} {o:Oper} (ho:ops.toList[i]? =some o)
  (he:∀e∈o.after.toList,Region.binds .any e=true→listed.getD e.on false=true) (j:Nat) (hb:bit (DF ops) i j=true):listed.getD j false=true:=
 Lb (S:=fun j=>listed.getD j false=true) (fun j o hj ho=>I.closed j o hj ho) i o ho he j hb
theorem EP.agree (I:EP P genv B w₀ n ops V jW s0 m0 b cs0 listed k m w a cs ts) (D:DOk P genv n ops) {i:Nat} {o:Oper} (ho:ops.toList[i]? =some o) (hni:listed.getD i false=false)
  (he:∀e∈o.after.toList,Region.binds .any e=true→listed.getD e.on false=true):xZ (yA s0.tmps (LOf P genv n ops) jW i) ts (mV P genv n ops o).uV:=by
 intro t ht
 have hU:=D.uV i _ (wQ (P:=P) (genv:=genv) (n:=n) ho)
 have hLl:∀{j:Nat} {op:oL},(LOf P genv n ops)[j]? =some op→∃oj,ops.toList[j]? =some oj∧op.o=mV P genv n ops oj:=fun {j op} hj=>by
  have hlt:j<ops.toList.length:=by
   have:=(List.getElem?_eq_some_iff.1 hj).1
   rw [zD] at this;simpa using this
  have h0:ops.toList[j]? =some ops.toList[j]:=List.getElem?_eq_getElem hlt
  rw [B7 h0] at hj
  cases hj
  exact ⟨_,h0,rfl⟩
 by_cases hw:∃j op,(LOf P genv n ops)[j]? =some op∧op.o.dst=some t∧j≠i
 ·obtain ⟨j,op,hj,hd,hji⟩:=hw
  obtain ⟨oj,hoj,Yt⟩:=hLl hj
  have SI:∀j' op',(LOf P genv n ops)[j']? =some op' →op'.o.dst=some t→j' =j:=fun j' op' hj' hd' =>by
   by_cases hjj:j' =j
   ·exact hjj
   ·obtain ⟨oj',hoj',Ys⟩:=hLl hj'
    have:=(BC (D.uV j' _ (wQ hoj')) (wQ (P:=P) (genv:=genv) (n:=n) hoj) (by rw [←Yt];exact hd) hjj).1
    rw [←Ys] at this
    exact absurd hd' this
  have hb:=(BC hU (wQ (P:=P) (genv:=genv) (n:=n) hoj) (by rw [←Yt];exact hd) (fun hh=>hji hh.symm)).2 ht
  split at hb
  ·rename_i hlt
   have hS:=I.mask ho he j hb
   obtain ⟨v,hv⟩:=I.ran j hS
   rw [I.put j op t v hS hj hd hv]
   exact J9 _ _ _ i j op hlt hj hd hv (fun j' op' h1 h2 h3 h4=>by have:=SI j' op' h3 h4;omega)
  ·rename_i hlt
   have hnS:listed.getD j false=false:=by
    cases hc:listed.getD j false with
    |false=>rfl
    |true=>
     have:=I.mask hoj (I.closed j oj hc hoj) i hb
     rw [hni] at this;cases this
   rw [I.other t (fun j' op' h1 h2 h3=>by have:=SI j' op' h2 h3;subst this;rw [hnS] at h1;cases h1)]
   exact BE _ _ _ i (fun j' op' h1 h2 h3=>by have:=SI j' op' h2 h3;omega)
 ·have hno:∀j op,j≠i→(LOf P genv n ops)[j]? =some op→op.o.dst≠some t:=fun j op h1 h2 h3=>hw ⟨j,op,h2,h3,h1⟩
  rw [I.other t (fun j' op' h1 h2=>hno j' op' (fun hh=>by subst hh;rw [hni] at h1;cases h1) h2)]
  exact BE _ _ _ i (fun j' op' h1 h2=>hno j' op' om h2)
theorem EP.next (I:EP P genv B w₀ n ops V jW s0 m0 b cs0 listed k m w a cs ts) (D:DOk P genv n ops) {i:Nat} {o:Oper} {op:oL} {v:AV} (ho:ops.toList[i]? =some o) (hop:(LOf P genv n ops)[i]? =some op)
  (hv:jW[i]? =some (some v)) (he:∀e∈o.after.toList,Region.binds .any e=true→listed.getD e.on false=true)
  {k' :Nat} {m' :Mem} {w' :World} {a' :Act} {cs' :List Frame} {h' :aD} (hk:k' ≤(Ap P genv n ops).length)
  (hh:∀(r j:Nat),(Ap P genv n ops)[r]? =some j→((j=i∨listed.getD j false=true)↔r<k')) (S:SR m' ⟨mC op.o.dst v ts,s0.defers,s0.rc,h'⟩ a' n) (K:KR m' b.kind cs0 s0.rc cs')
  (hg:V[k']? =some h') (W:WR P genv B w₀ h' m' w') (hnx:s0.heap.next+pc (LOf P genv n ops) (LOf P genv n ops).length≤h'.next) (hext:∀i,i<s0.heap.next→m'.ρ i=m.ρ i) (hle:m.Le m')
  (hfr:∀j q,j≠i→listed.getD j false=false→(LOf P genv n ops)[j]? =some q→vV q=true→m.ρ (s0.heap.next+pc (LOf P genv n ops) j)=none→m'.ρ (s0.heap.next+pc (LOf P genv n ops) j)=none):
  EP P genv B w₀ n ops V jW s0 m0 b cs0 (listed.setIfInBounds i true) k' m' w' a' cs' (mC op.o.dst v ts):=by
 have hlt:i<listed.size:=by
  rw [I.size]
  have:=(List.getElem?_eq_some_iff.1 ho).1
  simpa using this
 have GZ:=fun j=>BP (l:=listed) hlt j
 have hopo:op.o=mV P genv n ops o:=by rw [B7 ho] at hop;cases hop;rfl
 have YH:∀j q t,j≠i→(LOf P genv n ops)[j]? =some q→q.o.dst=some t→op.o.dst≠some t:=fun j q t hji hj hd=>by
  have hltj:j<ops.toList.length:=by
   have:=(List.getElem?_eq_some_iff.1 hj).1
   rw [zD] at this;simpa using this
  have h0:ops.toList[j]? =some ops.toList[j]:=List.getElem?_eq_getElem hltj
  have hq:=B7 (P:=P) (genv:=genv) (n:=n) h0
  rw [hq] at hj
  cases hj
  rw [hopo]
  exact (BC (D.uV i _ (wQ ho)) (wQ (P:=P) (genv:=genv) (n:=n) h0) hd (fun hh=>hji hh.symm)).1
 have Yq:∀t,op.o.dst≠some t→cH (mC op.o.dst v ts) t=cH ts t:=fun t ht=>by
  cases hd:op.o.dst with
  |none=>rfl
  |some e=>
   show cH ((e,v)::ts) t=_
   rw [tV,if_neg (fun hh=>ht (by rw [hd,hh]))]
 refine ⟨by simpa using I.size,fun j oj hj hoj e hem hb=> ?_,hk,fun r j hr=> ?_,fun j hj=> ?_,S.tmps,fun j q t u hj hq hd hu=> ?_,fun t ht=> ?_,S.size,S.defers,K,⟨h',hg,W,hnx⟩,
  fun j hj=>(hext j hj).trans (I.ext j hj),I.le.trans hle,fun j q hj hq hp=> ?_⟩
 ·rw [GZ]
  rw [GZ] at hj
  rcases hj with rfl|hj
  ·rw [ho] at hoj;cases hoj
   exact .inr (he e hem hb)
  ·exact .inr (I.closed j oj hj hoj e hem hb)
 ·rw [GZ];exact hh r j hr
 ·rw [GZ] at hj
  rcases hj with rfl|hj
  ·exact ⟨v,hv⟩
  ·exact I.ran j hj
 ·by_cases hji:j=i
  ·subst hji
   rw [hop] at hq;cases hq
   rw [hv] at hu;cases hu
   rw [hd]
   show cH ((t,v)::ts) t=v
   rw [tV,if_pos rfl]
  ·rw [GZ] at hj
   rw [Yq t (YH j q t hji hq hd)]
   exact I.put j q t u (hj.resolve_left hji) hq hd hu
 ·rw [Yq t (ht i op ((GZ i).2 (.inl rfl)) hop)]
  exact I.other t (fun j q hj hq=>ht j q ((GZ j).2 (.inr hj)) hq)
 ·have hji:j≠i:=fun hh=>by
   subst hh
   rw [(GZ j).2 (.inl rfl)] at hj;cases hj
  have hnj:listed.getD j false=false:=by
   cases hc:listed.getD j false with
   |false=>rfl
   |true=>rw [(GZ j).2 (.inr hc)] at hj;cases hj
  exact hfr j q hji hnj hq hp (I.fresh j q hnj hq hp)
end
end Go.Am
namespace Go.Am
open Go.RowKit
variable {P:Program} {genv:Nat→Option (List AV)} {B:Nat} {w₀:World} {m:Mem} {w:World}
theorem PN {s:String} {x:Option AOp} {z:List AV} (h:rL s x= .o3 (.alloc z)):x=some (.o3 (.alloc z)):=by
 cases x with
 |none=>cases h
 |some o=>rw [show rL s (some o)=o from rfl] at h;rw [h]
theorem NJ {t:TypeId} {z:List AV} (h:lJ P genv (.alloc t)= .o3 (.alloc z)):zeroCells P t=some z:=by
 have:=PN h
 obtain ⟨z',hz,e⟩:=Option.map_eq_some_iff.1 this
 cases e
 exact hz
theorem Vw {op:AOp} {z:List AV} (h:op.cls= .pre z):op= .o3 (.alloc z):=by
 cases op with
 |mov x=>cases h
 |call f l=>cases h
 |u1 u x=>
  cases u<;>try (cases h;done)
  rename_i k
  cases k<;>cases h
 |u2 u x=>cases u<;>cases h
 |b2 b x y=>cases b<;>cases h
 |o3 o=>cases o<;>cases h;rfl
section
variable {n:Nat} {ops:Array Oper} {V:List aD} {jW:List (Option AV)} {s0:St} {m0:Mem} {b:Frame} {cs0 cs:List Frame} {listed:Array Bool} {k:Nat} {a:Act} {ts:fN} {kk:List Item}
 {rec:Task→R Ans} {rd:Option Nat} {fn:FuncId} {i:Nat} {o:Oper} {rest:List Nat}
theorem LM (uB:sY P genv B w₀ rec) (D:DOk P genv n ops) (LR:Fu rec rd s0.defers s0.rc V s0.tmps (LOf P genv n ops) 0 s0.heap.next jW) (F:FR m fn rd b)
  (I:EP P genv B w₀ n ops V jW s0 m0 b cs0 listed k m w a cs ts) (ho:ops.toList[i]? =some o) (hni:listed.getD i false=false)
  (he:∀e∈o.after.toList,Region.binds .any e=true→listed.getD e.on false=true) (hi:Vd jW i):
  ∃a' m' w' cs' ts' k',Steps P (lone (b.atR a (.inRegion ops (i::rest)::kk)) cs w) (lone (b.atR a' (.inRegion ops rest::kk)) cs' w')∧
   EP P genv B w₀ n ops V jW s0 m0 b cs0 (listed.setIfInBounds i true) k' m' w' a' cs' ts' ∧m.Le m' :=by
 have hoA:ops[i]? =some o:=by simpa using ho
 obtain ⟨v,hv⟩:=hi
 obtain ⟨op,hop,hF⟩:=LR.fact i v hv
 have A:=I.agree D ho hni he
 obtain ⟨g,hg,W,hnx⟩:=I.heap
 have hK:CI op:=Cx _ _ _ _ 0 D.bad op (List.mem_of_getElem? hop)
 have Db:=B7 (P:=P) (genv:=genv) (n:=n) ho
 rw [hop] at Db
 have hpcl:∀(j:Nat) (q:oL),(LOf P genv n ops)[j]? =some q→vV q=true→s0.heap.next+pc (LOf P genv n ops) j<g.next:=fun j q hj hp=>by
  have:=Jc (List.getElem?_eq_some_iff.1 hj).1 hj hp
  omega
 have fin:∀(g' :aD) (k' :Nat),dJ rec rd op.o ⟨ts,s0.defers,s0.rc,g⟩= .ok (.normal,⟨mC op.o.dst v ts,s0.defers,s0.rc,g'⟩)→V[k']? =some g' →k' ≤(Ap P genv n ops).length→
   (∀(r j:Nat),(Ap P genv n ops)[r]? =some j→((j=i∨listed.getD j false=true)↔r<k'))→
   ∃a' m' w' cs' ts' k',Steps P (lone (b.atR a (.inRegion ops (i::rest)::kk)) cs w) (lone (b.atR a' (.inRegion ops rest::kk)) cs' w')∧
    EP P genv B w₀ n ops V jW s0 m0 b cs0 (listed.setIfInBounds i true) k' m' w' a' cs' ts' ∧m.Le m' :=by
  intro g' k' e hg' hk hh
  have ec:op.o=mV P genv n ops o:=by
   simp only [Option.some.injEq] at Db
   rw [Db]
  rw [ec] at e
  obtain ⟨a',m',w',cs',fr,q1,q2,q3,q4,q5,q6⟩:=Ax (s:=⟨ts,s0.defers,s0.rc,g⟩) (k:=kk) (rest:=rest) (cs:=cs) (a:=a) (n:=n) (cs0:=cs0) uB hoA F ⟨I.tmps,I.asz,I.defs⟩ W I.kr e
  cases q2
  rw [←ec] at q3
  have hge:s0.heap.next≤g.next:=om
  exact ⟨a',m',w',cs',_,k',q1,I.next D ho hop hv he hk hh q3 q5 hg' q4 (Nat.le_trans hnx q6.next) (fun j hj=>q6.old j (Nat.lt_of_lt_of_le hj hge)) q6.le (fun j q _ _ hj hp h0=>by rw [q6.old _ (hpcl j q hj hp)];exact h0),q6.le⟩
 have Aop:xZ (yA s0.tmps (LOf P genv n ops) jW i) ts op.o.uV:=by
  simp only [Option.some.injEq] at Db
  rw [Db];exact A
 have kY:uN (mV P genv n ops o)=false→∀(r j:Nat),(Ap P genv n ops)[r]? =some j→((j=i∨listed.getD j false=true)↔r<k):=fun hnh r j hr=>by
  obtain ⟨t,o',rfl,h2,h3,_⟩:=Cv _ _ _ _ hr
  rw [Nat.zero_add] at hr⊢
  have hne:t≠i:=fun hh=>by
   subst hh
   rw [wQ ho] at h2
   cases h2
   rw [hnh] at h3;cases h3
  rw [←I.uK r t hr]
  exact ⟨fun h=>h.resolve_left hne,.inr⟩
 have hdk:op.k=Hg (lOf P genv n ops).length (DF ops) (Ap P genv n ops) (mV P genv n ops o) i:=by
  simp only [Option.some.injEq] at Db
  rw [Db]
 have hoo:op.o=mV P genv n ops o:=by
  simp only [Option.some.injEq] at Db
  rw [Db]
 have Yk:k∈win (DF ops) (Ap P genv n ops) i:=by
  refine List.mem_filter.2 ⟨List.mem_range.2 (by have:=I.kle;omega), ?_⟩
  simp only [VO,Bool.and_eq_true,List.all_eq_true,Bool.not_eq_true']
  refine ⟨fun x hx=> ?_,fun x hx=> ?_⟩
  ·obtain ⟨r,hr⟩:=List.getElem?_of_mem hx
   rw [List.getElem?_take] at hr
   split at hr
   ·rename_i hlt
    have hS:=(I.uK r x hr).2 hlt
    cases hb:bit (DF ops) x i with
    |false=>rfl
    |true=>
     have hxl:x<ops.toList.length:=TZ hb
     have:=I.mask (List.getElem?_eq_getElem hxl) (I.closed x _ hS (List.getElem?_eq_getElem hxl)) i hb
     rw [hni] at this;cases this
   ·cases hr
  ·obtain ⟨r,hr⟩:=List.getElem?_of_mem hx
   rw [List.getElem?_drop] at hr
   cases hb:bit (DF ops) i x with
   |false=>rfl
   |true=>
    have:=(I.uK (k+r) x hr).1 (I.mask ho he x hb)
    omega
 unfold Fact at hF
 unfold CI at hK
 cases hkd:op.k with
 |soft=>
  rw [hkd] at hF hK
  obtain ⟨g0,hl⟩:=hF
  rw [Dj Aop] at hl
  have hl:=HW (h' :=g) hK hl
  refine fin g k (Df (.inl hK) hl) hg I.kle (kY ?_)
  rw [←hoo];unfold uN;rw [hK]
 |look Wj =>
  rw [hkd] at hF hK
  have hw:Wj =win (DF ops) (Ap P genv n ops) i:=by
   rw [hkd] at hdk
   unfold Hg at hdk
   rw [←hoo,hK] at hdk
   cases hdk;rfl
  have hl:=hF k (hw▸Yk) g hg
  rw [Dj Aop] at hl
  refine fin g k (Df (.inr hK) hl) hg I.kle (kY ?_)
  rw [←hoo];unfold uN;rw [hK]
 |uK last=>
  rw [hkd] at hF hK
  obtain ⟨g1,g2,hg1,hg2,hs⟩:=hF
  have hhc:uN (mV P genv n ops o)=true:=by rw [←hoo];unfold uN;rw [hK]
  have hr:=FH _ 0 i _ (wQ (P:=P) (genv:=genv) (n:=n) ho) hhc
  rw [Nat.zero_add] at hr
  have hcr:hc (LOf P genv n ops) i=hcl (lOf P genv n ops) i:=Fg _ _ _ _ _ _
  have hrk:hcl (lOf P genv n ops) i=k:=by
   have h1:¬hcl (lOf P genv n ops) i<k:=fun hh=>by
    have:=(I.uK _ i hr).2 hh
    rw [hni] at this;cases this
   by_cases h2:k<hcl (lOf P genv n ops) i
   ·exfalso
    have hkl:k<(Ap P genv n ops).length:=Nat.lt_trans h2 (List.getElem?_eq_some_iff.1 hr).1
    have hb:=FL D.chain k _ _ i h2 (List.getElem?_eq_getElem hkl) hr
    have:=(I.uK k _ (List.getElem?_eq_getElem hkl)).1 (I.mask ho he _ hb)
    omega
   ·omega
  rw [Nat.zero_add,hcr,hrk] at hg1 hg2
  rw [hg] at hg1;cases hg1
  rcases A4 hK hs with ⟨v',h',_,h2,h3⟩|⟨ch,h',h1,_⟩
  ·injection h2 with e1 _ _ e4
   subst e4
   have hlen:k<(Ap P genv n ops).length:=by rw [←hrk];exact (List.getElem?_eq_some_iff.1 hr).1
   have e3:=h3 ts Aop
   have hv2:mC op.o.dst v ts=mC op.o.dst v' ts:=by
    cases hd:op.o.dst with
    |none=>rfl
    |some d=>
     rw [hd] at e1
     have:(d,v)::yA s0.tmps (LOf P genv n ops) jW i=(d,v')::yA s0.tmps (LOf P genv n ops) jW i:=e1
     injection this with e5 _
     injection e5 with _ e6
     rw [e6]
   refine fin g2 (k+1) (by rw [hv2];exact e3) hg2 hlen (fun r j hj=> ?_)
   constructor
   ·rintro (rfl|hl)
    ·obtain ⟨t,o',ht,h5,_,h6⟩:=Cv _ _ _ _ hj
     rw [Nat.zero_add] at ht
     subst ht
     omega
    ·have:=(I.uK r j hj).1 hl
     omega
   ·intro hlt
    by_cases hrk' :r<k
    ·exact .inr ((I.uK r j hj).2 hrk')
    ·have:r=k:=om
     subst this
     rw [hrk] at hr
     have:(Ap P genv n ops)[r]? =some i:=hr
     rw [hj] at this
     cases this
     exact .inl rfl
  ·cases h1
 |pre zero Wj =>
  rw [hkd] at hF hK
  obtain ⟨rfl,hF⟩:=hF
  have hw:Wj =win (DF ops) (Ap P genv n ops) i:=by
   rw [hkd] at hdk
   unfold Hg at hdk
   rw [←hoo,hK] at hdk
   cases hdk;rfl
  have hgz:=hF k (hw▸Yk) g hg
  have Yr:vV op=true:=by unfold vV;rw [hkd]
  have hq:=I.fresh i op hni hop Yr
  have hcl:(mV P genv n ops o).cls= .pre zero:=by rw [←hoo];exact hK
  have hpo:=D.pre i o ho
  have hal:∃t,o.op= .alloc t:=by
   simp only [RF,hcl] at hpo
   cases Np :o.op with
   |alloc t=>exact ⟨t,rfl⟩
   |_=>rw [Np] at hpo;cases hpo
  obtain ⟨t,hal⟩:=hal
  have hinv:CZ ops o=some none∧Ix n o.dst=true∧op.o.dst=o.dst∧lJ P genv o.op= .o3 (.alloc zero):=by
   rw [hoo]
   unfold mV at hcl⊢
   split at hcl
   ·rename_i gd hgd hdo
    unfold lI.cls at hcl
    split at hcl
    ·cases hcl
    ·rename_i hx hne
     refine ⟨?_,hdo,rfl,Vw hcl⟩
     cases gd with
     |none=>exact hgd
     |some x=>exact absurd (hne _ _ hcl rfl) (by simp)
   ·cases hcl
  obtain ⟨i1,i2,i3,i4⟩:=hinv
  rw [hal] at i4
  have hz:=NJ i4
  have Yl:Region.wanted o (yielded ops a.tmps)=true:=FI (s:=⟨ts,[],.plain,g⟩) i1 I.tmps rfl
  obtain ⟨ti,zv,hi1,hi2,hi3,hi4⟩:=uO (m:=m) hz
  have vI:(execOp a.eval o).run P w= .ok (.value (.pointer (some ⟨w.heap.size,0,none⟩))) (w.alloc (.cells zv.cells t)):=by
   simp [execOp,hal,Instr.alloc,hi4,newVar,newRow,Sem.run_bind]
  have hro:b.roundOf=none∨∀c,o.op≠ .defer c:= .inr (fun c hc=>by rw [hal] at hc;cases hc)
  have hst:=Gr (P:=P) (b:=b) (k:=kk) (cs:=cs) (rest:=rest) hoA Yl hro vI
  rw [Fa hoA] at hst
  have hle:=DI W _ w.heap.size hq
  have W' :=W.Y6 hq hgz (fun n hh=>by cases hh) (.cells zv.cells t) (.cells _ _ _ (hi3.mono hle))
  have S' :SR (m.box (s0.heap.next+pc (LOf P genv n ops) i) w.heap.size) ⟨mC op.o.dst (.ptr (s0.heap.next+pc (LOf P genv n ops) i) 0) ts,s0.defers,s0.rc,g⟩ (a.put o.dst (.pointer (some ⟨w.heap.size,0,none⟩))) n:=by
   have S0:SR (m.box (s0.heap.next+pc (LOf P genv n ops) i) w.heap.size) ⟨ts,s0.defers,s0.rc,g⟩ a n:=⟨I.tmps.mono hle,I.asz,I.defs.mono hle⟩
   rw [i3]
   exact S0.put i2 (.ptr _ _ _ (ρHz _ _ _)) g
  have hv' :jW[i]? =some (some (.ptr (s0.heap.next+pc (LOf P genv n ops) i) 0)):=hv
  refine ⟨_,_,_,cs,_,k,.one hst,I.next D ho hop hv' he I.kle (kY ?_) S' (I.kr.mono hle) hg W' hnx (fun j hj=> ?_) hle (fun j q hji hnj hj hp h0=> ?_),hle⟩
  ·unfold uN;rw [hcl]
  ·simp only [Mem.box];rw [if_neg om]
  ·simp only [Mem.box]
   rw [if_neg]
   ·exact h0
   ·intro hh
    rcases Nat.lt_or_gt_of_ne hji with hlt|hlt
    ·have:=Jc hlt hj hp;omega
    ·have:=Jc hlt hop Yr;omega
theorem filter_lt {α:Type} {p q:α→Bool} (hqp:∀x,q x=true→p x=true):∀(l:List α),(l.filter q).length≤(l.filter p).length∧∀x∈l,p x=true→q x=false→(l.filter q).length<(l.filter p).length:=by
 intro l
 induction l with
 |nil=>exact ⟨Nat.le_refl _,fun x hx=>by cases hx⟩
 |cons y l ih=>
  have hle:((y::l).filter q).length≤((y::l).filter p).length:=by
   simp only [List.filter_cons]
   split
   ·rename_i h
    rw [if_pos (hqp _ h)]
    simp only [List.length_cons]
    exact Nat.succ_le_succ ih.1
   ·split
    ·simp only [List.length_cons];exact Nat.le_succ_of_le ih.1
    ·exact ih.1
  refine ⟨hle,fun x hx hp hq=> ?_⟩
  cases hx with
  |head=>
   simp only [List.filter_cons,hp,hq,if_true,List.length_cons]
   exact Nat.lt_succ_of_le ih.1
  |tail _ hx=>
   have:=ih.2 x hx hp hq
   simp only [List.filter_cons]
   split
   ·rename_i h
    rw [if_pos (hqp _ h)]
    simp only [List.length_cons];omega
   ·split
    ·simp only [List.length_cons];omega
    ·exact this
def unl (N:Nat) (listed:Array Bool):Nat:=((List.range N).filter fun i=> !listed.getD i false).length
theorem Uw {N i:Nat} {listed:Array Bool} (hi:i<N) (hs:listed.size=N) (hn:listed.getD i false=false):unl N (listed.setIfInBounds i true)<unl N listed:=by
 refine (filter_lt (fun x hx=> ?_) _).2 i (List.mem_range.2 hi) (by simp [hn]) ?_
 ·cases hc:listed.getD x false with
  |false=>rfl
  |true=>
   rw [(BP om x).2 (.inr hc)] at hx;cases hx
 ·rw [(BP om i).2 (.inl rfl)];rfl
theorem Rl {N:Nat} {listed:Array Bool} (h:unl N listed=0) (i:Nat) (hi:i<N):listed.getD i false=true:=by
 cases hc:listed.getD i false with
 |true=>rfl
 |false=>
  have:i∈(List.range N).filter fun i=> !listed.getD i false:=List.mem_filter.2 ⟨List.mem_range.2 hi,by simp [hc]⟩
  rw [List.length_eq_zero_iff.1 h] at this
  cases this
theorem N9 (D:DOk P genv n ops) (I:EP P genv B w₀ n ops V jW s0 m0 b cs0 listed k m w a cs ts) (hr:Region.ready .any ops listed=[]):∀i,i<ops.size→listed.getD i false=true:=by
 intro i
 induction i using Nat.strongRecOn with
 |ind i ih=>
  intro hi
  cases hc:listed.getD i false with
  |true=>rfl
  |false=>
   exfalso
   have Jx:i∈Region.ready .any ops listed:=by
    refine mem_ready.2 ⟨?_,ops[i],by simp [hi],fun e he hb=> ?_⟩
    ·have:i<listed.size:=by rw [I.size];exact hi
     simpa [this] using hc
    ·have hE:=D.YS i ops[i] (by simp [hi])
     have:=List.all_eq_true.1 hE e (by simpa using he)
     rw [hb] at this
     simp only [Bool.not_true,Bool.false_or] at this
     have hlt:e.on<i:=by simpa [Nat.blt_eq] using this
     exact ih e.on hlt om
   rw [hr] at Jx
   cases Jx
theorem TR.same {ts' :fN} (T:TR m ts a.tmps) (h:∀t,cH ts' t=cH ts t):TR m ts' a.tmps:=fun t=>by rw [h t];exact T t
variable {r:J6}
theorem O6 {kY:Option (List Nat)} {ans:Ans} (D:DOk P genv n ops) (O:Out rec rd s0.defers s0.rc V s0.tmps (LOf P genv n ops) 0 jW r) (BO:kK (LOf P genv n ops) kY s0.tmps r= .ok ans)
  (I:EP P genv B w₀ n ops V jW s0 m0 b cs0 listed k m w a cs ts) (zV:∀i,i<ops.size→listed.getD i false=true) (hge:s0.heap.next≤s0.heap.next):
  tS P genv B w₀ n b cs0 kk s0.heap m0 (lone (b.atR a (.inRegion ops []::kk)) cs w) ans:=by
 have hLlen:(LOf P genv n ops).length=ops.size:=zD
 rcases O with ⟨o1,o2,⟨g,o3,o4⟩⟩|⟨p,ch,g,g',op,fr,o1,o2,o3,o4,o5,o6,o7,o8,o9⟩
 ·obtain ⟨g1,hg1,W,hnx⟩:=I.heap
  have hkl:k=(Ap P genv n ops).length:=by
   have h1:=I.kle
   by_cases h2:k<(Ap P genv n ops).length
   ·exfalso
    have hx:=List.getElem?_eq_getElem h2
    obtain ⟨t,o',ht,h5,_,_⟩:=Cv _ _ _ _ hx
    have hlt:t<ops.size:=by
     have:=(List.getElem?_eq_some_iff.1 h5).1
     rw [DM] at this;exact this
    have:=(I.uK k _ hx).1 (zV _ (by rw [ht];simpa using hlt))
    omega
   ·omega
  have hhc:hc (LOf P genv n ops) (LOf P genv n ops).length=(Ap P genv n ops).length:=by
   rw [LOf,Fg,Dr,Ap,G5]
  have hnx' :s0.heap.next≤g1.next:=om
  rw [Nat.zero_add,hhc,←hkl,hg1] at o4
  cases o4
  have hts:∀t,cH (yA s0.tmps (LOf P genv n ops) jW (LOf P genv n ops).length) t=cH ts t:=by
   intro t
   by_cases hw:∃(j:Nat) (q:oL),(LOf P genv n ops)[j]? =some q∧q.o.dst=some t
   ·obtain ⟨j,q,hj,hd⟩:=hw
    have hjl:=(List.getElem?_eq_some_iff.1 hj).1
    obtain ⟨v,hv⟩:=o2 j hjl
    rw [I.put j q t v (zV j om) hj hd hv]
    refine J9 _ _ _ _ j q hjl hj hd hv (fun j' q' h1 h2 h3 h4=> ?_)
    have hjt:ops.toList[j]? =some (ops[j]'om):=by rw [Array.getElem?_toList];simp
    have YD :ops.toList[j']? =some (ops[j']'om):=by rw [Array.getElem?_toList];simp
    have e1:=B7 (P:=P) (genv:=genv) (n:=n) hjt
    have e2:=B7 (P:=P) (genv:=genv) (n:=n) YD
    rw [hj] at e1;rw [h3] at e2
    cases e1;cases e2
    exact (BC (D.uV j' _ (wQ YD)) (wQ (P:=P) (genv:=genv) (n:=n) hjt) hd om).1 h4
   ·have hno:∀(j:Nat) (q:oL),(LOf P genv n ops)[j]? =some q→q.o.dst≠some t:=fun j q h1 h2=>hw ⟨j,q,h1,h2⟩
    rw [I.other t (fun j q _ h1=>hno j q h1)]
    exact BE _ _ _ _ (fun j q _ h1=>hno j q h1)
  unfold kK at BO
  split at BO
  ·cases BO
  ·rw [o1] at BO
   simp only at BO
   cases BO
   rw [o3]
   exact ⟨_,_,rfl,a,m,w,cs,_,.one stepR_region_end,rfl,⟨(I.tmps.same hts).kY kY,I.asz,I.defs⟩,W,I.kr,⟨I.le,hnx',I.ext⟩⟩
 ·exfalso
  have hp:=(List.getElem?_eq_some_iff.1 o3).1
  exact o7 (I.ran p (zV _ om))
def Sd (l:List oL) (t:Nat):Bool:=l.all fun o=>match o.o.dst with|some d=>(match Nat.beq d t with|true=>false|false=>true)|none=>true
theorem Kb (l:List oL) (t:Nat):∀ts:fN,cH (D8 l ts) t=if Sd l t=true then cH ts t else .unk:=by
 intro ts
 induction ts with
 |nil=>show AV.unk=_;split<;>rfl
 |cons p ts ih=>
  obtain ⟨k,v⟩:=p
  have hd:D8 l ((k,v)::ts)=if Sd l k=true then (k,v)::D8 l ts else D8 l ts:=by
   simp only [D8,List.filter_cons]
   rfl
  rw [hd]
  by_cases hk:k=t
  ·subst hk
   split
   ·rw [tV,if_pos rfl,tV,if_pos rfl]
   ·rename_i h
    rw [ih,if_neg h]
  ·split
   ·rw [tV,if_neg hk,ih,tV,if_neg hk]
   ·rw [ih,tV,if_neg hk]
theorem Mz (l:List oL) (ts:fN) (t:Nat):cH (D8 l ts) t= .unk∨(cH (D8 l ts) t=cH ts t∧∀op∈l,op.o.dst≠some t):=by
 rw [Kb]
 by_cases h:Sd l t=true
 ·rw [if_pos h]
  refine .inr ⟨rfl,fun op hop hd=> ?_⟩
  have:=List.all_eq_true.1 h op hop
  rw [hd] at this
  simp at this
 ·rw [if_neg h];exact .inl rfl
theorem KM (uB:sY P genv B w₀ rec) (D:DOk P genv n ops) (LR:Fu rec rd s0.defers s0.rc V s0.tmps (LOf P genv n ops) 0 s0.heap.next jW) {kY:Option (List Nat)} {ans:Ans}
  (O:Out rec rd s0.defers s0.rc V s0.tmps (LOf P genv n ops) 0 jW r) (BO:kK (LOf P genv n ops) kY s0.tmps r= .ok ans):
  ∀(fuel t:Nat) {listed:Array Bool} {k:Nat} {m:Mem} {w:World} {a:Act} {cs:List Frame} {ts:fN},FR m fn rd b→EP P genv B w₀ n ops V jW s0 m0 b cs0 listed k m w a cs ts→unl ops.size listed≤fuel→
   tS P genv B w₀ n b cs0 kk s0.heap m0 (lone (b.atR a (.inRegion ops (Region.linearise.go .any ops fuel t listed [])::kk)) cs w) ans:=by
 intro fuel
 induction fuel with
 |zero=>
  intro t listed k m w a cs ts F I hu
  exact O6 D O BO I (Rl om) (Nat.le_refl _)
 |succ fuel ih=>
  intro t listed k m w a cs ts F I hu
  have hgo:Region.linearise.go .any ops (fuel+1) t listed []=match (Region.ready .any ops listed)[t % (Region.ready .any ops listed).length]? with
    |some i=>i::Region.linearise.go .any ops fuel (t/(Region.ready .any ops listed).length) (listed.setIfInBounds i true) []
    |none=>[]:=by
   rw [Region.linearise.go]
   show (match (Region.ready .any ops listed)[t % (Region.ready .any ops listed).length]? with
    |some i=>Region.linearise.go .any ops fuel (t/(Region.ready .any ops listed).length) (listed.setIfInBounds i true) [i]
    |none=>[].reverse)=_
   split
   ·rw [linearise_go_acc];rfl
   ·rfl
  rw [hgo]
  cases hx:(Region.ready .any ops listed)[t % (Region.ready .any ops listed).length]? with
  |none=>
   have hr:Region.ready .any ops listed=[]:=by
    cases hl:Region.ready .any ops listed with
    |nil=>rfl
    |cons x l=>
     rw [hl] at hx
     have:=List.getElem?_eq_none_iff.1 hx
     have h2:=Nat.mod_lt t (show 0<(x::l).length by simp)
     omega
   exact O6 D O BO I (N9 D I hr) (Nat.le_refl _)
  |some i=>
   obtain ⟨h1,o,ho,he⟩:=mem_ready.1 (List.mem_of_getElem? hx)
   have hlt:i<ops.size:=(Array.getElem?_eq_some_iff.1 ho).1
   have hni:listed.getD i false=false:=by
    have:i<listed.size:=by rw [I.size];exact hlt
    simpa [this] using h1
   have hoL:ops.toList[i]? =some o:=by simpa using ho
   have he' :∀e∈o.after.toList,Region.binds .any e=true→listed.getD e.on false=true:=fun e hm=>he e (by simpa using hm)
   by_cases hi:Vd jW i
   ·obtain ⟨a',m',w',cs',ts',k',hst,I',hle⟩:=LM (kk:=kk) (rest:=Region.linearise.go .any ops fuel (t/(Region.ready .any ops listed).length) (listed.setIfInBounds i true) []) uB D LR F I hoL hni he' hi
    have hu' :=Uw hlt I.size hni
    exact (ih _ (F.mono hle) I' om).head hst
   ·rcases O with ⟨o1,o2,_⟩|⟨p,ch,g,g',op,fr,o1,o2,o3,o4,o5,o6,o7,o8,o9⟩
    ·exfalso
     rw [zD] at o2
     exact hi (o2 i hlt)
    ·have hp:=(List.getElem?_eq_some_iff.1 o3).1
     have hplt:p<ops.size:=by rw [zD] at hp;exact hp
     have hpl:ops.toList[p]? =some ops[p]:=by simp [hplt]
     have SQ:=B7 (P:=P) (genv:=genv) (n:=n) hpl
     rw [o3] at SQ
     have hK:CI op:=Cx _ _ _ _ 0 D.bad op (List.mem_of_getElem? o3)
     have hoo:op.o=mV P genv n ops ops[p]:=by
      simp only [Option.some.injEq] at SQ;rw [SQ]
     have hdk:op.k=Hg (lOf P genv n ops).length (DF ops) (Ap P genv n ops) (mV P genv n ops ops[p]) p:=by
      simp only [Option.some.injEq] at SQ;rw [SQ]
     have Xb:op.o.cls= .uK:=by unfold CI at hK;rw [o4] at hK;exact hK
     have YC:∀j,p<j→j<ops.size→¬Vd jW j→bit (DF ops) j p=true:=by
      rw [o4] at hdk
      unfold Hg at hdk
      rw [←hoo,Xb] at hdk
      simp only [DK.uK.injEq,DM] at hdk
      intro j hj1 hj2 hnv
      split at hdk
      ·rename_i zV
       exact List.all_eq_true.1 zV j (by rw [List.mem_range'_1];omega)
      ·cases hb:bit (DF ops) j p with
       |true=>rfl
       |false=>
        exfalso
        refine hnv ?_
        have h1:fr[j -(p+1)]? =some true:=by
         rw [hdk,List.getElem?_map,List.getElem?_range' om]
         simp only [Option.map,Option.some.injEq]
         rw [show p+1+1*(j -(p+1))=j by omega,hb];rfl
        have:=o9 _ h1 (by rw [zD];omega)
        rwa [show p+1+(j -(p+1))=j by omega] at this
     have hip:p=i:=by
      by_cases hgt:p<i
      ·exact absurd (I.ran _ (I.mask hoL he' _ (YC i hgt hlt hi))) o7
      ·by_cases SW :i<p
       ·exact absurd (o8 i SW) hi
       ·omega
     subst hip
     rw [hpl] at hoL
     cases hoL
     have A:=I.agree D hpl hni he'
     rw [←hoo] at A
     obtain ⟨g1,hg1,W,hnx⟩:=I.heap
     have hhc:uN (mV P genv n ops ops[p])=true:=by rw [←hoo];unfold uN;rw [Xb]
     have hr:=FH _ 0 p _ (wQ (P:=P) (genv:=genv) (n:=n) hpl) hhc
     rw [Nat.zero_add] at hr
     have hcr:hc (LOf P genv n ops) p=hcl (lOf P genv n ops) p:=Fg _ _ _ _ _ _
     have hrk:hcl (lOf P genv n ops) p=k:=by
      have h1:¬hcl (lOf P genv n ops) p<k:=fun hh=>by
       have:=(I.uK _ _ hr).2 hh
       rw [hni] at this;cases this
      by_cases h2:k<hcl (lOf P genv n ops) p
      ·exfalso
       have hkl:k<(Ap P genv n ops).length:=Nat.lt_trans h2 (List.getElem?_eq_some_iff.1 hr).1
       have hb:=FL D.chain k _ _ _ h2 (List.getElem?_eq_getElem hkl) hr
       have:=(I.uK k _ (List.getElem?_eq_getElem hkl)).1 (I.mask hpl he' _ hb)
       omega
      ·omega
     have hge:s0.heap.next≤g1.next:=om
     rw [Nat.zero_add,hcr,hrk,hg1] at o5
     cases o5
     rcases A4 Xb o6 with ⟨v',h',h1',_⟩|⟨ch',h',h1',h2',h3'⟩
     ·cases h1'
     ·cases h1'
      injection h2' with _ _ _ e4
      subst e4
      have e:=h3' ts A
      rw [hoo] at e
      have L:=Ax (s:=⟨ts,s0.defers,s0.rc,_⟩) (k:=kk) (rest:=Region.linearise.go .any ops fuel (t/(Region.ready .any ops listed).length) (listed.setIfInBounds p true) []) (cs:=cs) (a:=a) (n:=n) (cs0:=cs0) uB ho F ⟨I.tmps,I.asz,I.defs⟩ W I.kr e
      obtain ⟨a',m',w',cs',fr,q1,⟨k1,ch'',q2,q2'⟩,q3,q4,q5,q6⟩:=L
      unfold kK at BO
      split at BO
      ·cases BO
      ·rw [o1] at BO
       simp only at BO
       cases BO
       obtain ⟨tsx,hrs⟩:=o2
       rw [hrs]
       refine ⟨_,_,rfl,a',m',w',cs',fr,q1,⟨k1,ch'',q2,q2'⟩,⟨fun t=> ?_,q3.size,q3.defers⟩,q4,q5,⟨I.le.trans q6.le,Nat.le_trans hge q6.next,fun j hj=>(q6.old j (Nat.lt_of_lt_of_le hj hge)).trans (I.ext j hj)⟩⟩
       show VR m' (cH (D8 (LOf P genv n ops) s0.tmps) t) _
       rcases Mz (LOf P genv n ops) s0.tmps t with h|⟨h,hno⟩
       ·rw [h];exact .unk _
       ·rw [h,←I.other t (fun j q _ hq=>hno q (List.mem_of_getElem? hq))]
        exact q3.tmps t
theorem Ja:∀(l:List oL) (h:aD),(rV l h).next=h.next+pc l l.length:=by
 intro l
 induction l with
 |nil=>intro h;rfl
 |cons o l ih=>
  intro h
  show _=h.next+pc (o::l) (l.length+1)
  rw [Ef]
  obtain ⟨o,k⟩:=o
  cases k with
  |pre zero win=>
   have:rV (⟨o,.pre zero win⟩::l) h=rV l (h.push (.cells zero)):=rfl
   rw [this,ih]
   simp [vV];omega
  |soft=>exact (ih h).trans (by simp [vV])
  |look w=>exact (ih h).trans (by simp [vV])
  |uK w=>exact (ih h).trans (by simp [vV])
theorem NB (uB:sY P genv B w₀ rec):Da P genv B w₀ rec:=by
 intro n ops id kp fn rd s m w b a k cs0 cs ans F S W K e
 replace e:cG rec fn rd (Hn P ops.toList (lOf P genv n ops) (kp id)) s= .ok ans:=e
 unfold Hn at e
 simp only at e
 split at e
 ·rename_i hc
  simp only [Bool.and_eq_true] at hc
  obtain ⟨hm,hd⟩:=hc
  replace e:qE rec rd (LOf P genv n ops) (kp id) s= .ok ans:=e
  have D:DOk P genv n ops:=LN hd
  obtain ⟨r,hr,e⟩:=R.aM e
  have hro:lT r.vs.reverse r.rs=true:=by
   unfold kK at e
   split at e
   ·cases e
   ·assumption
  obtain ⟨⟨nv,nr,hvs,_⟩,jW,hL,hO⟩:=Tz (d:=s.defers) (rc:=s.rc) r.vs.reverse (LOf P genv n ops) s.heap.next (rV (LOf P genv n ops) s.heap) [] [] s.tmps r (Cx _ _ _ _ 0 D.bad) hr rfl hro
  obtain ⟨W1,_⟩:=W.rV (LOf P genv n ops)
  have hV0:r.vs.reverse[0]? =some (rV (LOf P genv n ops) s.heap):=by rw [hvs];simp
  have hf:∀i,(Array.replicate ops.size false).getD i false=false:=fun i=>by
   rw [Array.getD_eq_getD_getElem?,Array.getElem?_replicate]
   split<;>rfl
  have hno:∀i,¬(Array.replicate ops.size false).getD i false=true:=fun i h=>by rw [hf i] at h;cases h
  have I0:EP P genv B w₀ n ops r.vs.reverse jW s m b cs0 (Array.replicate ops.size false) 0 m w.drew a cs s.tmps:=
   {size:=by simp
    closed:=fun i o h=>absurd h (hno i)
    kle:=Nat.zero_le _
    uK:=fun r i _=>⟨fun h=>absurd h (hno i),fun h=>absurd h (Nat.not_lt_zero r)⟩
    ran:=fun i h=>absurd h (hno i)
    tmps:=S.tmps
    put:=fun i op t v h=>absurd h (hno i)
    other:=fun t _=>rfl
    asz:=S.size
    defs:=S.defers
    kr:=K
    heap:=⟨_,hV0,W1.drew,by rw [Ja];exact Nat.le_refl _⟩
    ext:=fun i _=>rfl
    le:= .refl m
    fresh:=fun i op _ _ _=>W.ρDZ _ (Nat.le_add_right _ _)}
  have hs:Region.schedule (P.follows .mixedOrders) ops (w.tape w.drawn (.order b.fn id))=Region.linearise.go .any ops ops.size (w.tape w.drawn (.order b.fn id)) (Array.replicate ops.size false) []:=by
   rw [hm];rfl
  have Dl:=stepR_region_draw (P:=P) (b:=b) (a:=a) (k:=k) (cs:=cs) (w:=w) (ops:=ops) (id:=id)
  rw [hs] at Dl
  have hu:unl ops.size (Array.replicate ops.size false)≤ops.size:=Nat.le_trans (List.length_filter_le _ _) (by simp)
  exact (KM (fn:=fn) uB D hL hO e ops.size _ F I0 hu).head (.one Dl)
 ·cases e
theorem CG {fns:Go.Am.F} (hF:uY P genv fns) {orc:Orc} (hO:EO P genv B w₀ orc) (n:Nat):sY P genv B w₀ (eval fns orc n):=Nz hF hO (fun _ h=>NB h) n
end
end Go.Am
namespace Go.Am
open Go.RowKit
variable {P:Program} {genv:Nat→Option (List AV)} {B:Nat} {w₀:World} {h:aD} {m:Mem} {w:World}
def AV.ground:AV→Bool
 | .str _| .int _ _| .bool _=>true
 |_=>false
theorem VR.ground {m m' :Mem} {a:AV} {v:Value} (hg:a.ground=true) (r:VR m a v):VR m' a v:=by
 cases r<;>first|(cases hg;done)|constructor
theorem LR.ground {m m' :Mem} {as:List AV} {vs:List Value} (hg:as.all AV.ground=true) (r:LR m as vs):LR m' as vs:=
 ⟨r.1,fun i c v hc hv=>(r.2 i c v hc hv).ground (List.all_eq_true.1 hg c (List.mem_of_getElem? hc))⟩
def Mem.none (m:Mem):Mem:={m with ρ:=fun _=>Option.none,own:=fun _=>Option.none}
theorem WR.empty (W:WR P genv B w₀ h m w) (hG:∀g cs,genv g=some cs→cs.all AV.ground=true):WR P genv w.heap.size w aD.empty m.none w:=by
 refine ⟨.refl _ _,Nat.le_refl _,fun i j b e=> ?_,fun i b e=> ?_,fun i b e=> ?_,W.imm,fun i b o e=> ?_,fun b t sz e=> ?_,fun g cs e=> ?_⟩
 ·cases e
 ·cases e
 ·cases e
 ·cases e
 ·cases e
 ·obtain ⟨vs,h1,h2⟩:=W.Eu g cs e
  exact ⟨vs,h1.ground (hG g cs e),h2⟩
theorem WR.frame (W:WR P genv B w₀ h m w) {w' :World} (hb:Below w.heap.size w w') {b:Nat} (hbs:w.heap.size≤b) {cs:Array Value} {e:TypeId} {fr:Nat×Nat} (hc:w'.heap[b]? =some (.cells cs e fr)) (vs:List Value)
  (hv:∀(i:Nat) v,vs[i]? =some v→cs[i]? =some v):WR P genv B w₀ h (m.still b vs) w' ∧Ext h m h (m.still b vs):=by
 have Vj:∀c o v,m.imm c o=some v→c<w.heap.size:=fun c o v e' =>World.block_lt_of_cell? w _ (W.imm c o v e')
 have hle:m.Le (m.still b vs):=⟨fun _ _ e=>e,fun c o v e' =>by
  simp only [Mem.still];rw [if_neg (fun hh=>by subst hh;have:=Vj _ _ _ e';omega)];exact e',fun _ _ _ e=>⟨e,rfl⟩⟩
 refine ⟨⟨W.below.trans (hb.mono W.size),Nat.le_trans W.size hb.size,W.inj,fun i c hi=> ?_,fun i c hi=> ?_,fun c o v e' => ?_,fun i c o hi=> ?_,fun c t sz e' => ?_,fun g cs' e' => ?_⟩,hle,Nat.le_refl _,fun _ _=>rfl⟩
 ·obtain ⟨h1,h2,h3⟩:=W.lt i c hi
  exact ⟨h1,h2,Nat.lt_of_lt_of_le h3 hb.size⟩
 ·obtain ⟨o',r',k1,k2,k3⟩:=W.obj i c hi
  exact ⟨o',r',k1,by rw [hb.block c (W.lt i c hi).2.2];exact k2,k3.mono hle⟩
 ·simp only [Mem.still] at e'
  split at e'
  ·rename_i hcb
   subst hcb
   have hq:=hv o v e'
   simp [World.cell?,hc,hq]
  ·rw [←W.imm c o v e']
   exact uL (hb.block c (Vj c o v e'))
 ·have h3:=(W.lt i c hi).2.2
  simp only [Mem.still]
  rw [if_neg om]
  exact W.apart i c o hi
 ·obtain ⟨h1,h2,h3,n,h4,h5,cs',e0,h6,h7⟩:=W.own c t sz e'
  have hlt:=(W.Ay e').1
  refine ⟨h1,h2,h3,n,h4,fun o ho=> ?_,cs',e0,by rw [hb.block c hlt];exact h6,h7⟩
  simp only [Mem.still]
  rw [if_neg om]
  exact h5 o ho
 ·obtain ⟨vs',h1,h2⟩:=W.Eu g cs' e'
  exact ⟨vs',h1.mono hle,fun i v hi=>hle.imm _ _ _ (h2 i v hi)⟩
theorem RL:EO P genv B w₀ (fun _=>none):=fun f g e=>by cases e
def qR (P:Program) (genv:Nat→Option (List AV)) (orc:Orc):Prop:=∀B w₀,EO P genv B w₀ orc
def As (P:Program) (genv:Nat→Option (List AV)) (f:FuncId) (v:AV):Prop:=
 ∀(B:Nat) (w₀:World) (h:aD) (m:Mem) (w:World) (cs:List Frame),WR P genv B w₀ h m w→
  (callFunc f #[]).run P w= .ok (.enter f #[]) w∧Leaves P genv B w₀ f .normal cs h m (lone (Frame.enter P f #[] .normal) cs w) (.ret v) .plain h
theorem qR.none:qR P genv (fun _=>Option.none):=fun _ _=>RL
def Hy (f:FuncId) (v:AV) (orc:Orc):Orc:=fun g=>match Nat.beq g f with
 |true=>some fun args=>match args with
  |[]=>some v
  |_=>Option.none
 |false=>orc g
theorem qR.add {orc:Orc} (hO:qR P genv orc) {f:FuncId} {v:AV} (hA:As P genv f v):qR P genv (Hy f v orc):=by
 intro B w₀ g u e args x ex h m w cs jY ha W
 unfold Hy at e
 split at e
 ·rename_i hb
  cases e
  cases args with
  |nil=>
   cases ex
   have:jY = #[]:=Array.ext' ha.AU
   subst this
   rw [Nat.eq_of_beq_eq_true hb]
   exact hA B w₀ h m w cs W
  |cons=>cases ex
 ·exact hO B w₀ g u e args x ex h m w cs jY ha W
def HG (P:Program) (genv:Nat→Option (List AV)) (f:FuncId) (g:List AV→Option AV):Prop:=
 ∀args v,g args=some v→∀(B:Nat) (w₀:World) (h:aD) (m:Mem) (w:World) (cs:List Frame) (jY :Array Value),LR m args jY.toList→WR P genv B w₀ h m w→
  (callFunc f jY).run P w= .ok (.enter f jY) w∧Leaves P genv B w₀ f .normal cs h m (lone (Frame.enter P f jY .normal) cs w) (.ret v) .plain h
def nH (f:FuncId) (k:List AV→Option AV) (orc:Orc):Orc:=fun g=>match Nat.beq g f with
 |true=>some k
 |false=>orc g
theorem qR.addF {orc:Orc} (hO:qR P genv orc) {f:FuncId} {k:List AV→Option AV} (hA:HG P genv f k):qR P genv (nH f k orc):=by
 intro B w₀ g u e args x ex h m w cs jY ha W
 unfold nH at e
 split at e
 ·rename_i hb
  cases e
  rw [Nat.eq_of_beq_eq_true hb]
  exact hA args x ex B w₀ h m w cs jY ha W
 ·exact hO B w₀ g u e args x ex h m w cs jY ha W
theorem WR.Tm (W:WR P genv B w₀ h m w) {w' :World} (hb:Below w.heap.size w w'):WR P genv B w₀ h m w' ∧Ext h m h m:=by
 have Vj:∀c o v,m.imm c o=some v→c<w.heap.size:=fun c o v e' =>World.block_lt_of_cell? w _ (W.imm c o v e')
 refine ⟨⟨W.below.trans (hb.mono W.size),Nat.le_trans W.size hb.size,W.inj,fun i c hi=> ?_,fun i c hi=> ?_,fun c o v e' => ?_,W.apart,fun c t sz e' => ?_,W.Eu⟩,.refl m,Nat.le_refl _,fun _ _=>rfl⟩
 ·obtain ⟨h1,h2,h3⟩:=W.lt i c hi
  exact ⟨h1,h2,Nat.lt_of_lt_of_le h3 hb.size⟩
 ·obtain ⟨o',r',k1,k2,k3⟩:=W.obj i c hi
  exact ⟨o',r',k1,by rw [hb.block c (W.lt i c hi).2.2];exact k2,k3⟩
 ·rw [←W.imm c o v e']
  exact uL (hb.block c (Vj c o v e'))
 ·obtain ⟨h1,h2,h3,n,h4,h5,cs',e0,h6,h7⟩:=W.own c t sz e'
  have hlt:=(W.Ay e').1
  exact ⟨h1,h2,h3,n,h4,h5,cs',e0,by rw [hb.block c hlt];exact h6,h7⟩
theorem HR {fns:Go.Am.F} (hF:uY P genv fns) {orc:Orc} (hO:qR P genv orc) (hG:∀g cs,genv g=some cs→cs.all AV.ground=true) {n:Nat} {f:FuncId} {v:AV} {h' :aD}
  (he:eval fns orc n (.call f [] .plain aD.empty)= .ok (.call (.ret v) .plain h')) (hg:v.ground=true):As P genv f v:=by
 intro B w₀ h m w ks W
 obtain ⟨x,rc',h1,hx,hcf,m',w',cs',fr,q1,q2,q3,q4,q5,q6,q7,q8,q9⟩:=CG (B:=w.heap.size) (w₀:=w) hF (hO _ _) n _ _ he #[] m.none w .normal ks ks (.nil _) (W.empty hG) (.plain rfl)
 cases hx
 refine ⟨hcf, ?_⟩
 obtain ⟨zT,fn,v',hfn,BM,hv⟩:=q6
 cases q7 with
 |plain _=>
  obtain ⟨W',E'⟩:=W.Tm q8.below
  exact ⟨_,w',ks,fr,q1,q2,q3,q4,q5,⟨zT,fn,_,hfn,BM,hv.ground hg⟩,.plain rfl,W',E'⟩
theorem GD {fns:Go.Am.F} (hF:uY P genv fns) {orc:Orc} (hO:qR P genv orc) (hG:∀g cs,genv g=some cs→cs.all AV.ground=true) {n:Nat} {f:FuncId} {id len cap:Nat} {h' :aD} {cs:List AV}
  (he:eval fns orc n (.call f [] .plain aD.empty)= .ok (.call (.ret (.arr id 0 len cap)) .plain h')) (hc:h'.get id=some (.cells cs)) (hlen:len≤cs.length) (hg:(cs.take len).all AV.ground=true) {tk:Tk} (htk:tk= .dead∨(tk= .full∧cap=len)):
  As P genv f (.sl tk (cs.take len)):=by
 intro B w₀ h m w ks W
 obtain ⟨x,rc',h1,hx,hcf,m',w',cs',fr,q1,q2,q3,q4,q5,q6,q7,q8,q9⟩:=CG (B:=w.heap.size) (w₀:=w) hF (hO _ _) n _ _ he #[] m.none w .normal ks ks (.nil _) (W.empty hG) (.plain rfl)
 cases hx
 refine ⟨hcf, ?_⟩
 obtain ⟨zT,fn,v',hfn,BM,hv⟩:=q6
 cases q7 with
 |plain _=>
  cases hv with
  |arr _ _ _ _ b hb hle=>
   obtain ⟨o,r,k1,k2,k3⟩:=q8.obj id b hb
   rw [hc] at k1
   cases k1
   cases k3 with
   |cells _ vs e hl=>
    have hbs:=(q8.lt id b hb).2.1
    have hlt:(cs.take len).length=len:=by simp;omega
    obtain ⟨W',E'⟩:=W.frame q8.below hbs k2 (vs.toList.take len) (fun i v hi=>by
     rw [List.getElem?_take] at hi
     split at hi
     ·simpa using hi
     ·cases hi)
    have Bo:(cs.take len).flatMap AV.cells=cs.take len:=by
     have:∀l:List AV,l.all AV.ground=true→l.flatMap AV.cells=l:=by
      intro l
      induction l with
      |nil=>intro _;rfl
      |cons a l ih=>
       intro h
       simp only [List.all_cons,Bool.and_eq_true] at h
       rw [List.flatMap_cons,ih h.2]
       cases a<;>first|(cases h.1;done)|rfl
     exact this _ hg
    have hLt:LR (m.still b (vs.toList.take len)) (cs.take len) (vs.toList.take len):=(hl.take len).ground hg
    refine ⟨_,w',ks,fr,q1,q2,q3,q4,q5,⟨zT,fn,_,hfn,BM, ?_⟩,.plain rfl,W',E'⟩
    have key:=VR.sl (m:=m.still b (vs.toList.take len)) tk (cs.take len) (vs.toList.take len) b 0 cap 1 none (fun x hx=>by
      have:=List.all_eq_true.1 hg x hx
      cases x<;>first|(cases this;done)|rfl) (by rw [Bo];exact hLt.1) (by rw [Bo];exact hLt.2)
     (fun i v hi=>by simp only [Mem.still,if_true,Nat.zero_add];exact hi)
     (by rw [Bo,List.all_eq_true];intro x hx;have:=List.all_eq_true.1 hg x hx;cases x<;>first|(cases this;done)|rfl)
     (by rw [hlt];exact hle) (fun e=>by rcases htk with q|⟨_,q⟩;rw [q] at e;cases e;rw [hlt];exact q) (fun t e0 e=>by rcases htk with q|⟨q,_⟩<;>(rw [q] at e;cases e)) (.inl rfl)
    rw [hlt] at key
    exact key
end Go.Am
namespace Go.Am
open Go.RowKit
def Dc:AV→Value
 | .int k n=> .int k n
 | .str s=> .string ⟨s.toArray⟩
 | .bool b=> .bool b
 |_=>undef
theorem VG {m:Mem} {a:AV} (h:a.ground=true):VR m a (Dc a):=by
 cases a<;>first|(cases h;done)|constructor
theorem G6 {m:Mem} {a:AV} {u:Value} (h:a.ground=true) (r:VR m a u):u=Dc a:=by
 cases r<;>first|(cases h;done)|rfl
theorem J3 {m:Mem}:∀{as:List AV},as.all AV.ground=true→LR m as (as.map Dc)
 |[],_=>LR.nil m
 |a::as,h=>by
  simp only [List.all_cons,Bool.and_eq_true] at h
  exact (J3 h.2).cons (VG h.1)
def Xg (genv:Nat→Option (List AV)):Mem:=
 {ρ:=fun _=>none,imm:=fun b o=>(genv b).bind fun cs=>(cs.map Dc)[o]?,own:=fun _=>none,bsz:=fun _=>0}
theorem WR.start {P:Program} {genv:Nat→Option (List AV)} {W:World} (hG:∀g cs,genv g=some cs→cs.all AV.ground=true)
  (hW:∀g cs,genv g=some cs→∀(i:Nat) v,(cs.map Dc)[i]? =some v→W.cell? ⟨g,i,none⟩=some v):WR P genv W.heap.size W aD.empty (Xg genv) W:=by
 refine ⟨.refl _ _,Nat.le_refl _,fun i j b e=> ?_,fun i b e=> ?_,fun i b e=> ?_,fun b o v e=> ?_,fun i b o e=> ?_,fun b t sz e=> ?_,fun g cs e=> ?_⟩
 ·cases e
 ·cases e
 ·cases e
 ·obtain ⟨cs,h1,h2⟩:=Option.bind_eq_some_iff.1 e
  exact hW b cs h1 o v h2
 ·cases e
 ·cases e
 ·refine ⟨cs.map Dc,J3 (hG g cs e),fun i v hv=> ?_⟩
  show (genv g).bind _=_
  rw [e,Nat.zero_add]
  exact hv
theorem Up {P:Program} {genv:Nat→Option (List AV)} {fns:Go.Am.F} (hF:uY P genv fns) {orc:Orc} (hO:qR P genv orc) (hG:∀g cs,genv g=some cs→cs.all AV.ground=true)
  {n:Nat} {f:FuncId} {args:List AV} {v:AV} {h' :aD} (he:eval fns orc n (.call f args .plain aD.empty)= .ok (.call (.ret v) .plain h')) (hg:v.ground=true)
  {jY :Array Value} (hA:LR (Xg genv) args jY.toList) {W:World} (hW:∀g cs,genv g=some cs→∀(i:Nat) v,(cs.map Dc)[i]? =some v→W.cell? ⟨g,i,none⟩=some v):
  Calls P f jY W fun e W' =>e= .returned (Dc v)∧Below W.heap.size W W' :=by
 intro ks
 obtain ⟨x,rc',h1,hx,hcf,m',w',cs',fr,q1,q2,q3,q4,q5,q6,q7,q8,q9⟩:=CG (B:=W.heap.size) (w₀:=W) hF (hO _ _) n _ _ he jY (Xg genv) W .normal ks ks hA (WR.start hG hW) (.plain rfl)
 cases hx
 obtain ⟨zT,fn,v',hfn,BM,hv⟩:=q6
 cases q7 with
 |plain _=>
  refine ⟨.returned v',w',fr,⟨by rw [G6 hg hv],q8.below⟩,q1,q2,zT,q4,q3,fn, ?_,BM⟩
  rw [q2]
  exact hfn
def Gb (f:AV→Bool):R Ans→Bool
 | .ok (.call (.ret v) .plain _)=>f v
 |_=>false
theorem Ho {f:AV→Bool} {r:R Ans} (h:Gb f r=true):∃v h',r= .ok (.call (.ret v) .plain h')∧f v=true:=by
 unfold Gb at h
 split at h
 ·exact ⟨_,_,rfl,h⟩
 ·cases h
def F6:AV→Bool
 | .bool true=>true
 |_=>false
theorem GU {v:AV} (h:F6 v=true):v= .bool true:=by
 unfold F6 at h
 split at h
 ·rfl
 ·cases h
def Ed (len:Nat):Option AO→Option (List AV)
 |some (.cells cs)=>match Nat.ble len cs.length && (cs.take len).all AV.ground with
  |true=>some (cs.take len)
  |false=>none
 |_=>none
def VW:R Ans→Option (List AV)
 | .ok (.call (.ret (.arr id 0 len _)) .plain h)=>Ed len (h.get id)
 |_=>none
theorem Fl {P:Program} {genv:Nat→Option (List AV)} {fns:Go.Am.F} (hF:uY P genv fns) {orc:Orc} (hO:qR P genv orc) (hG:∀g cs,genv g=some cs→cs.all AV.ground=true) {n:Nat} {f:FuncId} {xs:List AV}
  (h:VW (eval fns orc n (.call f [] .plain aD.empty))=some xs):As P genv f (.sl .dead xs):=by
 unfold VW at h
 split at h
 ·rename_i id len cap hp he
  unfold Ed at h
  split at h
  ·rename_i cs hc
   split at h
   ·rename_i hb
    simp only [Bool.and_eq_true] at hb
    cases h
    exact GD hF hO hG he hc (Nat.le_of_ble_eq_true hb.1) hb.2 (.inl rfl)
   ·cases h
  ·cases h
 ·cases h
def Rs:R Ans→Option (List AV)
 | .ok (.call (.ret (.arr id 0 len cap)) .plain h)=>match Nat.beq cap len with
  |true=>Ed len (h.get id)
  |false=>none
 |_=>none
theorem EJ {P:Program} {genv:Nat→Option (List AV)} {fns:Go.Am.F} (hF:uY P genv fns) {orc:Orc} (hO:qR P genv orc) (hG:∀g cs,genv g=some cs→cs.all AV.ground=true) {n:Nat} {f:FuncId} {xs:List AV}
  (h:Rs (eval fns orc n (.call f [] .plain aD.empty))=some xs):As P genv f (.sl .full xs):=by
 unfold Rs at h
 split at h
 ·rename_i id len cap hp he
  split at h
  ·rename_i hcl
   unfold Ed at h
   split at h
   ·rename_i cs hc
    split at h
    ·rename_i hb
     simp only [Bool.and_eq_true] at hb
     cases h
     exact GD hF hO hG he hc (Nat.le_of_ble_eq_true hb.1) hb.2 (.inr ⟨rfl,Nat.eq_of_beq_eq_true hcl⟩)
    ·cases h
   ·cases h
  ·cases h
 ·cases h
theorem JZ {P:Program} {genv:Nat→Option (List AV)} {fns:Go.Am.F} (hF:uY P genv fns) {orc:Orc} (hO:qR P genv orc) (hG:∀g cs,genv g=some cs→cs.all AV.ground=true) {n:Nat} {f:FuncId}
  (h:Gb F6 (eval fns orc n (.call f [] .plain aD.empty))=true):As P genv f (.bool true):=by
 obtain ⟨v,h',he,hv⟩:=Ho h
 cases GU hv
 exact HR hF hO hG he rfl
inductive FT where
 |leaf
 |node (k:Nat) (a:AFn) (l r:FT)
def FT.get (t:FT) (f:Nat):Option AFn:=
 FT.rec none (fun k a _ _ ihl ihr=>Bool.rec (Bool.rec ihr ihl (Nat.ble f k)) (some a) (Nat.beq f k)) t
def FT.All (p:Nat→AFn→Prop):FT→Prop
 | .leaf=>True
 | .node k a l r=>p k a∧l.All p∧r.All p
theorem FT.Vn {p:Nat→AFn→Prop} {f:Nat} {a:AFn}:∀{t:FT},t.All p→t.get f=some a→p f a:=by
 intro t
 induction t with
 |leaf=>intro _ h;cases h
 |node k b l r ihl ihr=>
  intro hp h
  obtain ⟨h1,h2,h3⟩:=hp
  have e:(FT.node k b l r).get f=Bool.rec (Bool.rec (r.get f) (l.get f) (Nat.ble f k)) (some b) (Nat.beq f k):=rfl
  rw [e] at h
  cases hb:Nat.beq f k with
  |true=>
   rw [hb] at h
   cases h
   rw [Nat.eq_of_beq_eq_true hb]
   exact h1
  |false=>
   rw [hb] at h
   cases hl:Nat.ble f k with
   |true=>rw [hl] at h;exact ihl h2 h
   |false=>rw [hl] at h;exact ihr h3 h
def VJ (P:Program) (genv:Nat→Option (List AV)) (f:Nat) (a:AFn):Prop:=
 ∃fn kp,P.funcs[f]? =some fn∧Hm P genv kp fn=some a∧∀(args:Array Value) (w:World),(callFunc f args).run P w= .ok (.enter f args) w
theorem uY.R6 {P:Program} {genv:Nat→Option (List AV)} {t:FT} (h:t.All (VJ P genv)):uY P genv t.get:=fun f a e=>FT.Vn (p:=VJ P genv) h e
def WM (l:List (Nat×List Nat)) (i:Nat):Option (List Nat):=
 some (List.rec [] (fun p _ ih=>Bool.rec ih p.2 (Nat.beq p.1 i)) l)
def Xf (g:Nat) (cs:List AV):Nat→Option (List AV):=fun i=>Bool.rec none (some cs) (Nat.beq i g)
theorem E9 {g:Nat} {cs:List AV} {i:Nat} {ds:List AV} (h:Xf g cs i=some ds):i=g∧ds=cs:=by
 unfold Xf at h
 cases hb:Nat.beq i g with
 |true=>rw [hb] at h;cases h;exact ⟨Nat.eq_of_beq_eq_true hb,rfl⟩
 |false=>rw [hb] at h;cases h
end Go.Am
namespace Go.Am
open Go
def kOff (l d:Nat):Nat:=(l|||(1<<<d))^^^(1<<<d)
def kOp (l:Nat):Operand→Nat
 | .tmp t=>l|||(1<<<t)
 |_=>l
def Yj (all:Array Oper):List Oper→Nat→Nat
 |[],l=>l
 |o::r,l=>
  let l:=Yj all r l
  let l:=o.op.operands.toList.foldl kOp (match o.dst with|some d=>kOff l d|none=>l)
  match o.guard with
  |some (j,_)=>match (all[j]?).bind (·.dst) with
   |some t=>l|||(1<<<t)
   |none=>l
  |none=>l
def kAt (res:Nat) (id:Nat):List (Nat×Nat)→Nat
 |[]=>res
 |(j,l)::r=>if Nat.beq j id then l else kAt res id r
def kGo (res:Nat):Code→Nat→List (Nat×Nat)→Nat×List (Nat×Nat)
 | .region id ops _,out,_=>(Yj ops ops.toList out,[(id,out)])
 | .seq a b,out,ex=>
  let q:=kGo res b out ex
  let p:=kGo res a q.1 ex
  (p.1,p.2++q.2)
 | .cond c a b,out,ex=>
  let p:=kGo res a out ex
  let q:=kGo res b out ex
  (kOp (p.1|||q.1) c,p.2++q.2)
 | .block id b,out,ex=>kGo res b out ((id,out)::ex)
 | .loop b,_,ex=>kGo res b (kGo res b 0 ex).1 ex
 | .rangeFunc f _ a b,out,ex=>
  let q:=kGo res b 0 ex
  let p:=kGo res a q.1 ex
  (kOp (out|||p.1) f|||res,p.2++q.2)
 | .exit id,_,ex=>(kAt res id ex,[])
 | .scope b,out,ex=>kGo res b out ex
 | .ret,_,_=>(res,[])
 |_,out,_=>(out,[])
def Qm:Code→Bool
 | .region _ ops _=>ops.toList.any fun o=>match o.op with| .defer _=>true|_=>false
 | .seq a b| .cond _ a b=>Qm a||Qm b
 | .block _ b| .loop b| .scope b=>Qm b
 | .rangeFunc _ _ a b=>Qm a||Qm b
 |_=>false
def OP:Nat→Nat→Nat→List Nat
 |0,_,_=>[]
 |n+1,i,m=>if m=0 then [] else if m % 64=0 then OP n (i+6) (m/64) else if m % 2=1 then i::OP n (i+1) (m/2) else OP n (i+1) (m/2)
def kFn (fn:Func):List (Nat×List Nat):=
 match fn.body with
 |none=>[]
 |some c=>
  let r:=fn.results.toList.foldl (fun l x=>match x with| .tmp t=>l|||(1<<<t)| .cell a _=>l|||(1<<<a)) 0
  let d:=Qm c
  (kGo r c r []).2.map fun p=>(p.1,OP 400 0 (if d then p.2|||r else p.2))
def Wi:List (Bool×Bool)→Nat→Bool×List Nat
 |[],k=>(true,[k])
 |(a,b)::r,k=>match Wi r (k+1) with
  |(c,l)=>match b && c,a with
   |true,true=>(true,k::l)
   |true,false=>(true,[k])
   |false,true=>(false,l)
   |false,false=>(false,[])
def S9:List lI→List Nat→Nat→List (Nat×Nat)
 |o::r,m::ms,i=>match o.cls with
  | .uK=>(i,m)::S9 r ms (i+1)
  |_=>S9 r ms (i+1)
 |_,_,_=>[]
def dkQ (hm:List (Nat×Nat)):List lI→List Nat→Nat→List oL
 |o::r,m::ms,i=>⟨o,match o.cls with
  | .look=> .look (Wi (hm.map fun p=>(!p.2.testBit i, !m.testBit p.1)) 0).2
  | .uK=> .uK (if ms.all (fun m=>m.testBit i) then [] else ms.map fun m=> !m.testBit i)
  | .pre zero=> .pre zero (Wi (hm.map fun p=>(!p.2.testBit i, !m.testBit p.1)) 0).2
  |_=> .soft⟩::dkQ hm r ms (i+1)
 |_,_,_=>[]
def Ds (P:Program) (genv:Nat→Option (List AV)) (n:Nat) (kp:Nat→Option (List Nat)):Code→AC
 | .skip=> .skip
 | .region id ops false=> .reg (ops.toList.map (mV P genv n ops)) (kp id)
 | .region id ops true=>
  let l:=ops.toList.map (mV P genv n ops)
  let ms:=zO ops.toList []
  .Xp (dkQ (S9 l ms 0) l ms 0) (kp id)
 | .seq a b=> .seq (Ds P genv n kp a) (Ds P genv n kp b)
 | .cond c a b=> .cond (opd genv c) (Ds P genv n kp a) (Ds P genv n kp b)
 | .block id b=> .block id (Ds P genv n kp b)
 | .loop b=> .loop (Ds P genv n kp b)
 | .rangeFunc f params a b=> .rf (opd genv f) params.toList (Ds P genv n kp a) (Ds P genv n kp b)
 | .exit id=> .exit id
 | .scope b=> .scope (Ds P genv n kp b)
 | .label _=> .skip
 | .goto _=> .none "goto"
 | .ret=> .ret
 | .refuse w=> .none w
def fnQ (P:Program) (genv:Nat→Option (List AV)) (kp:Nat→Option (List Nat)) (fn:Func):AFn:=
 {ntmps:=fn.ntmps,results:=(fn.results.toList.mapM (Ez P)).getD [],body:=Ds P genv fn.ntmps kp (fn.body.getD .skip)}
end Go.Am
namespace Go.Fs
mutual
inductive pO where
 |mk (kind op n man ex:Int) (text:List UInt8) (args:List pO) (desc:List pD)
inductive pD where
 |mk (slot:List UInt8) (pre:List pO) (decls:List kV) (enter:List pO) (hasDo:Bool) (doo:List qN) (exit:List pO)
inductive kV where
 |mk (kind:Int) (names:List (List UInt8)) (size path:List pO) (desc:List pD)
inductive qN where
 |mk (kind:Int) (name:List UInt8) (exps:List pO) (cases:List vK) (hasElse:Bool) (body:List qN)
inductive vK where
 |mk (jW:List pO) (body:List qN)
end
inductive Part where
 |exp (e:pO)
 |desc (d:pD)
 |decl (d:kV)
 |imp (i:qN)
 |case (c:vK)
def Part.kids:Part→List Part
 | .exp (.mk _ _ _ _ _ _ a d)=>a.map Part.exp++d.map Part.desc
 | .desc (.mk _ p d e _ i x)=>p.map Part.exp++d.map Part.decl++e.map Part.exp++i.map Part.imp++x.map Part.exp
 | .decl (.mk _ _ s p d)=>s.map Part.exp++p.map Part.exp++d.map Part.desc
 | .imp (.mk _ _ e c _ b)=>e.map Part.exp++c.map Part.case++b.map Part.imp
 | .case (.mk v b)=>v.map Part.exp++b.map Part.imp
def Part.wt:Part→Nat
 | .exp e=>SizeOf.sizeOf e
 | .desc d=>SizeOf.sizeOf d
 | .decl d=>SizeOf.sizeOf d
 | .imp i=>SizeOf.sizeOf i
 | .case c=>SizeOf.sizeOf c
theorem Part.FX {p q:Part} (h:q∈p.kids):q.wt<p.wt:=by
 cases p with
 |exp e=>
  cases e
  simp only [Part.kids,List.mem_append,List.mem_map] at h
  rcases h with ⟨x,hx,rfl⟩|⟨x,hx,rfl⟩<;>(have:=List.sizeOf_lt_of_mem hx;simp [Part.wt];omega)
 |desc d=>
  cases d
  simp only [Part.kids,List.mem_append,List.mem_map] at h
  rcases h with (((⟨x,hx,rfl⟩|⟨x,hx,rfl⟩)|⟨x,hx,rfl⟩)|⟨x,hx,rfl⟩)|⟨x,hx,rfl⟩<;>(have:=List.sizeOf_lt_of_mem hx;simp [Part.wt];omega)
 |decl d=>
  cases d
  simp only [Part.kids,List.mem_append,List.mem_map] at h
  rcases h with (⟨x,hx,rfl⟩|⟨x,hx,rfl⟩)|⟨x,hx,rfl⟩<;>(have:=List.sizeOf_lt_of_mem hx;simp [Part.wt];omega)
 |imp i=>
  cases i
  simp only [Part.kids,List.mem_append,List.mem_map] at h
  rcases h with (⟨x,hx,rfl⟩|⟨x,hx,rfl⟩)|⟨x,hx,rfl⟩<;>(have:=List.sizeOf_lt_of_mem hx;simp [Part.wt];omega)
 |case c=>
  cases c
  simp only [Part.kids,List.mem_append,List.mem_map] at h
  rcases h with ⟨x,hx,rfl⟩|⟨x,hx,rfl⟩<;>(have:=List.sizeOf_lt_of_mem hx;simp [Part.wt];omega)
def Part.own:Part→Nat
 | .decl (.mk _ names _ _ _)=>1+names.length
 |_=>1
def Part.nodes (p:Part):Nat:=p.own+(p.kids.attach.map fun ⟨q,_⟩=>q.nodes).sum
termination_by p.wt
decreasing_by exact Part.FX (by assumption)
theorem Part.qH (p:Part):p.nodes=p.own+(p.kids.map Part.nodes).sum:=by
 rw [Part.nodes,List.attach_map_val (f:=Part.nodes)]
def Part.deep (p:Part):Nat:=1+(p.kids.attach.map fun ⟨q,_⟩=>q.deep).foldl max 0
termination_by p.wt
decreasing_by exact Part.FX (by assumption)
theorem Part.deep_eq (p:Part):p.deep=1+(p.kids.map Part.deep).foldl max 0:=by
 rw [Part.deep,List.attach_map_val (f:=Part.deep)]
theorem Part.ind {P:Part→Prop} (h:∀p,(∀q∈p.kids,P q)→P p):∀p,P p:=by
 have key:∀n p,p.wt<n→P p:=by
  intro n
  induction n with
  |zero=>intro p hp;omega
  |succ n ih=>intro p hp;exact h p fun q hq=>ih q (by have:=Part.FX hq;omega)
 exact fun p=>key _ p (Nat.lt_succ_self _)
mutual
def IU (inner:List qN):qN→List qN
 | .mk k nm ex cs he bd=>if k=2 then inner else [.mk k nm ex (ET inner cs) he (Ak inner bd)]
def Ak (inner:List qN):List qN→List qN
 |[]=>[]
 |x::xs=>IU inner x++Ak inner xs
def ET (inner:List qN):List vK→List vK
 |[]=>[]
 | .mk v b::cs=> .mk v (Ak inner b)::ET inner cs
end
mutual
def YT:qN→Nat
 | .mk k _ _ cs _ bd=>if k=2 then 1 else TJ cs+Fi bd
def Fi:List qN→Nat
 |[]=>0
 |x::xs=>YT x+Fi xs
def TJ:List vK→Nat
 |[]=>0
 | .mk _ b::cs=>Fi b+TJ cs
end
theorem Kj (inner a b:List qN):Ak inner (a++b)=Ak inner a++Ak inner b:=by
 induction a with
 |nil=>simp [Ak]
 |cons x a ih=>simp [Ak,ih]
theorem LU (a b:List qN):Fi (a++b)=Fi a+Fi b:=by
 induction a with
 |nil=>simp [Fi]
 |cons x a ih=>simp [Fi,ih,Nat.add_assoc]
mutual
theorem Pz (b c:List qN):∀x:qN,Ak c (IU b x)=IU (Ak c b) x
 | .mk k nm ex cs he bd=>by
  unfold IU
  split
  ·rfl
  ·rename_i h
   simp only [Ak,List.append_nil]
   unfold IU
   rw [if_neg h,Ie b c cs,ES b c bd]
theorem ES (b c:List qN):∀l:List qN,Ak c (Ak b l)=Ak (Ak c b) l
 |[]=>by simp [Ak]
 |x::xs=>by
  simp only [Ak,Kj]
  rw [Pz b c x,ES b c xs]
theorem Ie (b c:List qN):∀l:List vK,ET c (ET b l)=ET (Ak c b) l
 |[]=>by simp [ET]
 | .mk v d::cs=>by
  simp only [ET]
  rw [ES b c d,Ie b c cs]
end
def BJ:qN:= .mk 2 [] [] [] false []
mutual
def MP:qN→Prop
 | .mk k nm ex cs he bd=>(k=2→qN.mk k nm ex cs he bd=BJ)∧Jb cs∧Gz bd
def Gz:List qN→Prop
 |[]=>True
 |x::xs=>MP x∧Gz xs
def Jb:List vK→Prop
 |[]=>True
 | .mk _ b::cs=>Gz b∧Jb cs
end
mutual
theorem MD:∀x:qN,MP x→IU [BJ] x=[x]
 | .mk k nm ex cs he bd,h=>by
  unfold MP at h
  unfold IU
  split
  ·rename_i hk
   rw [h.1 hk]
  ·rw [Gs cs h.2.1,DB bd h.2.2]
theorem DB:∀l:List qN,Gz l→Ak [BJ] l=l
 |[],_=>by simp [Ak]
 |x::xs,h=>by
  unfold Gz at h
  simp only [Ak]
  rw [MD x h.1,DB xs h.2]
  rfl
theorem Gs:∀l:List vK,Jb l→ET [BJ] l=l
 |[],_=>by simp [ET]
 | .mk v d::cs,h=>by
  unfold Jb at h
  simp only [ET]
  rw [DB d h.1,Gs cs h.2]
end
mutual
theorem QV:∀x:qN,Fi (IU [] x)=0
 | .mk k nm ex cs he bd=>by
  unfold IU
  split
  ·simp [Fi]
  ·rename_i hk
   simp only [Fi,Nat.add_zero]
   unfold YT
   rw [if_neg hk,Iz cs,Fh bd]
theorem Fh:∀l:List qN,Fi (Ak [] l)=0
 |[]=>by simp [Ak,Fi]
 |x::xs=>by
  simp only [Ak,LU]
  rw [QV x,Fh xs]
theorem Iz:∀l:List vK,TJ (ET [] l)=0
 |[]=>by simp [ET,TJ]
 | .mk v d::cs=>by
  simp only [ET,TJ]
  rw [Fh d,Iz cs]
end
end Go.Fs
namespace Go.Am
section
variable (fns:Go.Am.F) (orc:Orc)
def Ev (t:Task) (a:Ans):Prop:=∃n,∀m,n≤m→eval fns orc m t= .ok a
end
variable {fns:Go.Am.F} {orc:Orc}
theorem XN (m:Nat) (t:Task):eval fns orc (m+1) t=Hd fns orc (eval fns orc m) t:=rfl
theorem Ev.run {t:Task} {a:Ans} (h:Ev fns orc t a):∃n,eval fns orc n t= .ok a:=h.elim fun n h=>⟨n,h n (Nat.le_refl n)⟩
theorem Ev.code {fn:FuncId} {rd:Option Nat} {c:AC} {s:St} {a:Ans} (h:∃n,∀m,n≤m→cG (eval fns orc m) fn rd c s= .ok a):Ev fns orc (.code fn rd c s) a:=by
 obtain ⟨n,h⟩:=h
 refine ⟨n+1,fun m hm=> ?_⟩
 obtain ⟨k,rfl⟩:∃k,m=k+1:=⟨m -1,by omega⟩
 exact h k om
def eP (afn:AFn):Ans→R Ans
 | .code x s=>match x,s.defers with
  | .normal,[]=>(eH s.heap s.tmps afn.results).bind fun l=> .ok (.call (.ret (oneOf l)) s.rc s.heap)
  | .ret,[]=>(eH s.heap s.tmps afn.results).bind fun l=> .ok (.call (.ret (oneOf l)) s.rc s.heap)
  | .panic ch,[]=> .ok (.call (.panic ch) s.rc s.heap)
  |_,_=> .no "handBack"
 |_=> .no "handBack"
theorem fW {f:FuncId} {afn:AFn} {args:List AV} {rc:RC} {h:aD} {a:Ans} {n:Nat} (hf:fns f=some afn) (ho:orc f=none)
  (hb:∀m,n≤m→(cG (eval fns orc m) f none afn.body ⟨eO 0 args,[],rc,h⟩).bind (eP afn)= .ok a) (m:Nat) (hm:n+2≤m):eval fns orc m (.call f args rc h)= .ok a:=by
 obtain ⟨k,rfl⟩:∃k,m=k+2:=⟨m -2,by omega⟩
 have hk:=hb k om
 show Bx fns orc (eval fns orc (k+1)) f args rc h= .ok a
 unfold Bx
 rw [ho]
 unfold IB
 simp only [hf]
 show (cG (eval fns orc k) f none afn.body ⟨eO 0 args,[],rc,h⟩).bind (C8 (eval fns orc (k+1)) f)= .ok a
 cases hc:cG (eval fns orc k) f none afn.body ⟨eO 0 args,[],rc,h⟩ with
 |no w=>rw [hc] at hk;cases hk
 |ok ans=>
  rw [hc] at hk
  simp only [R.bind] at hk⊢
  cases ans with
  |call x rc h=>cases hk
  |code x s=>
   obtain ⟨ts,ds,rc',hp⟩:=s
   cases ds with
   |cons d ds=>cases x<;>cases hk
   |nil=>
    cases x with
    |exit id=>cases hk
    |normal=>
     show F0 fns (eval fns orc k) f none ⟨ts,[],rc',hp⟩= .ok a
     show Hf fns f none ⟨ts,[],rc',hp⟩= .ok a
     unfold Hf
     simp only [hf]
     exact hk
    |ret=>
     show Hf fns f none ⟨ts,[],rc',hp⟩= .ok a
     unfold Hf
     simp only [hf]
     exact hk
    |panic ch=>exact hk
theorem Ev.call {f:FuncId} {afn:AFn} {args:List AV} {rc:RC} {h:aD} {a:Ans} (hf:fns f=some afn) (ho:orc f=none)
  (hb:∃n,∀m,n≤m→(cG (eval fns orc m) f none afn.body ⟨eO 0 args,[],rc,h⟩).bind (eP afn)= .ok a):Ev fns orc (.call f args rc h) a:=
 hb.elim fun n hb=>⟨n+2,fW hf ho hb⟩
section
variable {rec:Task→R Ans} {fn:FuncId} {rd:Option Nat} {s:St}
theorem dR:cG rec fn rd .skip s= .ok (.code .normal s):=rfl
theorem fG (ops:List lI) (k:Option (List Nat)):cG rec fn rd (.reg ops k) s=(PO rec rd ops s).bind (gJ k):=rfl
theorem iM (ops:List oL) (k:Option (List Nat)):cG rec fn rd (.Xp ops k) s=qE rec rd ops k s:=rfl
theorem fE (a b:AC):cG rec fn rd (.seq a b) s=(cG rec fn rd a s).bind (lS (cG rec fn rd b)):=rfl
theorem dV (c:Opd) (t e:AC):cG rec fn rd (.cond c t e) s=mH (cG rec fn rd t) (cG rec fn rd e) s (ev s.tmps c):=rfl
theorem cT (id:Nat) (b:AC):cG rec fn rd (.block id b) s=(cG rec fn rd b s).bind (eE id):=rfl
theorem aI (b:AC):cG rec fn rd (.loop b) s=(cG rec fn rd b s).bind (lS fun s=>rec (.code fn rd (.loop b) s)):=rfl
theorem dU (id:Nat):cG rec fn rd (.exit id) s= .ok (.code (.exit id) s):=rfl
theorem cS (b:AC):cG rec fn rd (.scope b) s=cG rec fn rd b s:=rfl
theorem fF:cG rec fn rd .ret s= .ok (.code .ret s):=rfl
theorem gV:PO rec rd [] s= .ok (.code .normal s):=rfl
theorem eQ (o:lI) (l:List lI):PO rec rd (o::l) s=(dJ rec rd o s).bind (iZ (PO rec rd l)):=rfl
theorem aM {α β:Type} (a:α) (f:α→R β):(R.ok a).bind f=f a:=rfl
end
end Go.Am
namespace Go.Am
open Go.Fs
theorem rJ (ts:fN) (n:Nat):ev ts (.t n)=cH ts n:=rfl
theorem sB (ts:fN) (v:AV):ev ts (.c v)=v:=rfl
theorem dG (k:Nat) (v:AV) (ts:fN) (t:Nat):cH ((k,v)::ts) t=Bool.rec (cH ts t) v (Nat.beq k t):=rfl
theorem dM (ts:fN) (t:Nat) (k:List Nat):FC ts (t::k)=(t,cH ts t)::FC ts k:=rfl
theorem eZ (ts:fN):FC ts []=[]:=rfl
theorem fO {α:Type} (a:α) (l:List α):nth (a::l) 0=some a:=rfl
theorem gX {α:Type} (a:α) (l:List α) (n:Nat):nth (a::l) (n+1)=nth l n:=rfl
theorem iC (ts:fN) (x:Opd) (l:List Opd):evL ts (x::l)=ev ts x::evL ts l:=rfl
theorem jH (ts:fN):evL ts []=[]:=rfl
theorem Dp (h:aD) (o:AO):(h.push o).get h.next=some o:=aD.qI h o
theorem Lx (h:aD) (o:AO) (i:Nat) (hi:i<h.next):(h.push o).get i=h.get i:=aD.vD h o i hi
structure aP (h h' :aD):Prop where
 next:h.next≤h'.next
 get:∀i,i<h.next→h'.get i=h.get i
theorem aP.refl (h:aD):aP h h:=⟨Nat.le_refl _,fun _ _=>rfl⟩
theorem aP.trans {a b c:aD} (h:aP a b) (k:aP b c):aP a c:=⟨Nat.le_trans h.next k.next,fun i hi=>(k.get i (Nat.lt_of_lt_of_le hi h.next)).trans (h.get i hi)⟩
theorem aP.push (h:aD) (o:AO):aP h (h.push o):=⟨by simp,fun i hi=>Lx h o i hi⟩
theorem aP.tI {a h:aD} (k:aP a h) (o:AO):aP a (h.push o):=k.trans (.push h o)
theorem aP.set {a h:aD} (k:aP a h) {i:Nat} (hi:a.next≤i) (hl:i<h.next) (o:AO):aP a (h.set i o):=
 ⟨by simpa using k.next,fun j hj=>by rw [aD.uC _ _ _ _ hl,if_neg om];exact k.get j hj⟩
inductive iP:AV→List AV→Prop
 |nil:iP .aC []
 |sl (tk:Tk) (xs:List AV):iP (.sl tk xs) xs
mutual
inductive RV:Part→AV→Prop
 |exp {k op n man ex:Int} {t:List UInt8} {a:List pO} {d:List pD} {va vd:AV}:RVs (a.map Part.exp) va→RVs (d.map Part.desc) vd→
   RV (.exp (.mk k op n man ex t a d)) (.agg [.int .i64 k,.int .i64 op,.int .i64 n,.int .i64 man,.int .i64 ex,.str t,va,vd])
 |desc {s:List UInt8} {p:List pO} {d:List kV} {e:List pO} {b:Bool} {i:List qN} {x:List pO} {vp vd ve vi vx:AV}:
   RVs (p.map Part.exp) vp→RVs (d.map Part.decl) vd→RVs (e.map Part.exp) ve→RVs (i.map Part.imp) vi→RVs (x.map Part.exp) vx→
   RV (.desc (.mk s p d e b i x)) (.agg [.str s,vp,vd,ve,.bool b,vi,vx])
 |decl {k:Int} {n:List (List UInt8)} {s p:List pO} {d:List pD} {vn vs vp vd:AV}:iP vn (n.map AV.str)→RVs (s.map Part.exp) vs→RVs (p.map Part.exp) vp→RVs (d.map Part.desc) vd→
   RV (.decl (.mk k n s p d)) (.agg [.int .i64 k,vn,vs,vp,vd])
 |imp {k:Int} {n:List UInt8} {e:List pO} {c:List vK} {b:Bool} {i:List qN} {ve vc vi:AV}:RVs (e.map Part.exp) ve→RVs (c.map Part.case) vc→RVs (i.map Part.imp) vi→
   RV (.imp (.mk k n e c b i)) (.agg [.int .i64 k,.str n,ve,vc,.bool b,vi])
 |case {v:List pO} {i:List qN} {vv vi:AV}:RVs (v.map Part.exp) vv→RVs (i.map Part.imp) vi→RV (.case (.mk v i)) (.agg [vv,vi])
inductive RVs:List Part→AV→Prop
 |nil:RVs [] .aC
 |sl {l:List Part} (tk:Tk) {xs:List AV}:RVL l xs→RVs l (.sl tk xs)
inductive RVL:List Part→List AV→Prop
 |nil:RVL [] []
 |cons {p:Part} {v:AV} {l:List Part} {xs:List AV}:RV p v→RVL l xs→RVL (p::l) (v::xs)
end
theorem RVL.length {l:List Part} {xs:List AV} (h:RVL l xs):xs.length=l.length:=by
 induction l generalizing xs with
 |nil=>cases h;rfl
 |cons p l ih=>cases h with|cons _ h=>simp [ih h]
theorem RVL.append {l m:List Part} {xs ys:List AV} (h:RVL l xs) (k:RVL m ys):RVL (l++m) (xs++ys):=by
 induction l generalizing xs with
 |nil=>cases h;exact k
 |cons p l ih=>cases h with|cons h1 h2=>exact .cons h1 (ih h2)
theorem RVL.get {l:List Part} {xs:List AV} (h:RVL l xs) {i:Nat} (hi:i<l.length):∃v,xs[i]? =some v∧RV l[i] v:=by
 induction l generalizing xs i with
 |nil=>cases hi
 |cons p l ih=>
  cases h with
  |cons h1 h2=>
   cases i with
   |zero=>exact ⟨_,rfl,h1⟩
   |succ i=>exact ih h2 (by simpa using hi)
theorem RVs.X2 {l:List Part} {v:AV} (h:RVs l v):∃xs,iP v xs∧RVL l xs:=by
 cases h with
 |nil=>exact ⟨[],.nil,.nil⟩
 |sl tk h=>exact ⟨_,.sl tk _,h⟩
theorem RVs.len {l:List Part} {v:AV} (h:RVs l v) (hp:aD):nJ hp .sl v= .ok l.length:=by
 cases h with
 |nil=>rfl
 |sl tk h=>simp [nJ,h.length]
def pY:List AV:=[.int .i64 0,.int .i64 0,.int .i64 0,.int .i64 0,.int .i64 0,.str [],.aC,.aC]
def kD:List AV:=[.str [],.aC,.aC,.aC,.bool false,.aC,.aC]
def kF:List AV:=[.int .i64 0,.aC,.aC,.aC,.aC]
def pX:List AV:=[.int .i64 0,.str [],.aC,.aC,.bool false,.aC]
def lG:List AV:=[.aC,.aC]
def aX:Part→List AV→List AV
 | .exp _,c=> .int .i64 1::(c++kD++kF++pX++lG)
 | .desc _,c=> .int .i64 2::(pY++c++kF++pX++lG)
 | .decl _,c=> .int .i64 3::(pY++kD++c++pX++lG)
 | .imp _,c=> .int .i64 4::(pY++kD++kF++c++lG)
 | .case _,c=> .int .i64 5::(pY++kD++kF++pX++c)
def RP (p:Part) (v:AV):Prop:=∃c,RV p (.agg c)∧v= .agg (aX p c)
inductive RPL:List Part→List AV→Prop
 |nil:RPL [] []
 |cons {p:Part} {v:AV} {l:List Part} {xs:List AV}:RP p v→RPL l xs→RPL (p::l) (v::xs)
end Go.Am
namespace Go.Am
variable {fns:Go.Am.F} {orc:Orc}
def uF:Nat→List vM→aD→Option aD
 |_,[],h=>some h
 |k+1,.collected b::ds,h=>match h.get b with
  |some (.deferred (some []))=>uF k ds (h.set b (.deferred none))
  |_=>none
 |_,_::_,_=>none
def iU (afn:AFn):Ans→R Ans
 | .code x s=>match x,uF 8 s.defers s.heap with
  | .normal,some h=>(eH h s.tmps afn.results).bind fun l=> .ok (.call (.ret (oneOf l)) s.rc h)
  | .ret,some h=>(eH h s.tmps afn.results).bind fun l=> .ok (.call (.ret (oneOf l)) s.rc h)
  | .panic ch,some h=> .ok (.call (.panic ch) s.rc h)
  |_,_=> .no "handBack"
 |_=> .no "handBack"
theorem Gk {f:FuncId} {mode:Option (List pQ)} {ts:fN} {rc:RC}:∀(k:Nat) (ds:List vM) (h h' :aD),uF k ds h=some h' →
  ∀m,k+1≤m→eval fns orc m (.unwind f mode ⟨ts,ds,rc,h⟩)=Hf fns f mode ⟨ts,[],rc,h'⟩:=by
 intro k
 induction k with
 |zero=>
  intro ds h h' e m hm
  obtain ⟨j,rfl⟩:∃j,m=j+1:=⟨m -1,by omega⟩
  cases ds with
  |nil=>cases e;rfl
  |cons d ds=>cases d<;>cases e
 |succ k ih=>
  intro ds h h' e m hm
  obtain ⟨j,rfl⟩:∃j,m=j+1:=⟨m -1,by omega⟩
  cases ds with
  |nil=>cases e;rfl
  |cons d ds=>
   cases d with
   |call g args=>cases e
   |collected b=>
    simp only [uF] at e
    split at e
    ·rename_i hb
     show Bw (eval fns orc j) f mode ⟨ts,.collected b::ds,rc,h⟩ b ds=_
     simp only [Bw,hb]
     exact ih _ _ _ e j om
    ·cases e
theorem Ev.A0 {f:FuncId} {afn:AFn} {args:List AV} {rc:RC} {h:aD} {a:Ans} (hf:fns f=some afn) (ho:orc f=none)
  (hb:∃n,∀m,n≤m→(cG (eval fns orc m) f none afn.body ⟨eO 0 args,[],rc,h⟩).bind (iU afn)= .ok a):Ev fns orc (.call f args rc h) a:=by
 obtain ⟨n,hb⟩:=hb
 refine ⟨n+12,fun m hm=> ?_⟩
 obtain ⟨k,rfl⟩:∃k,m=k+2:=⟨m -2,by omega⟩
 have hk:=hb k om
 show Bx fns orc (eval fns orc (k+1)) f args rc h= .ok a
 unfold Bx
 rw [ho]
 unfold IB
 simp only [hf]
 show (cG (eval fns orc k) f none afn.body ⟨eO 0 args,[],rc,h⟩).bind (C8 (eval fns orc (k+1)) f)= .ok a
 cases hc:cG (eval fns orc k) f none afn.body ⟨eO 0 args,[],rc,h⟩ with
 |no w=>rw [hc] at hk;cases hk
 |ok ans=>
  rw [hc] at hk
  simp only [R.bind] at hk⊢
  cases ans with
  |call x rc h=>cases hk
  |code x s=>
   obtain ⟨ts,ds,rc',hp⟩:=s
   simp only [iU] at hk
   cases hu:uF 8 ds hp with
   |none=>cases x<;>simp only [hu] at hk<;>cases hk
   |some h' =>
    cases x with
    |exit id=>simp only [hu] at hk;cases hk
    |normal=>
     show eval fns orc (k+1) (.unwind f none ⟨ts,ds,rc',hp⟩)= .ok a
     rw [Gk 8 ds hp h' hu (k+1) om]
     unfold Hf
     simp only [hf]
     simp only [hu] at hk
     exact hk
    |ret=>
     show eval fns orc (k+1) (.unwind f none ⟨ts,ds,rc',hp⟩)= .ok a
     rw [Gk 8 ds hp h' hu (k+1) om]
     unfold Hf
     simp only [hf]
     simp only [hu] at hk
     exact hk
    |panic ch=>
     show eval fns orc (k+1) (.unwind f (some ch) ⟨ts,ds,rc',hp⟩)= .ok a
     rw [Gk 8 ds hp h' hu (k+1) om]
     simp only [hu] at hk
     exact hk
def iT (fns:Go.Am.F) (rec:Task→R Ans) (l:Nat) (r:tM):Ans→R Ans
 | .code .normal s=>(jG s.heap l).bind fun r' =>match r'.state with
  | .ready=>(cG rec r.fn (some l) r.body ⟨s.tmps,s.defers,s.rc,s.heap.set l (.loop {r' with state:= .busy})⟩).bind (aN fns r.fn l)
  |_=> .no "round: state"
 |_=> .no "round: assign"
def uI (fns:Go.Am.F) (rec:Task→R Ans) (l:Nat) (r:tM) (ts:fN) (h:aD):R Ans:=
 (cG rec r.fn (some l) r.assign ⟨ts,[],.plain,h⟩).bind (iT fns rec l r)
theorem Ev.round {l:Nat} {args:List AV} {h:aD} {r:tM} {ts:fN} {a:Ans} (hl:h.get l=some (.loop r)) (hb:B0 r.params args r.tmps=some ts)
  (H:∃n,∀m,n≤m→uI fns (eval fns orc m) l r ts h= .ok a):Ev fns orc (.round l args h) a:=by
 obtain ⟨n,H⟩:=H
 refine ⟨n+2,fun m hm=> ?_⟩
 obtain ⟨k,rfl⟩:∃k,m=k+2:=⟨m -2,by omega⟩
 have hk:=H k om
 show Gv fns (eval fns orc (k+1)) l args h= .ok a
 unfold Gv jG
 simp only [hl,aM,hb]
 show (cG (eval fns orc k) r.fn (some l) r.assign ⟨ts,[],.plain,h⟩).bind (C6 fns (eval fns orc (k+1)) l r.fn r.body)= .ok a
 have e:C6 fns (eval fns orc (k+1)) l r.fn r.body=iT fns (eval fns orc k) l r:=by
  funext ans
  cases ans with
  |call x rc h=>rfl
  |code x s=>cases x<;>rfl
 rw [e]
 exact hk
theorem zX {rec:Task→R Ans} {fn:FuncId} {rd:Option Nat} {s:St} (f:Opd) (ps:List Nat) (a b:AC):cG rec fn rd (.rf f ps a b) s=rfA rec fn rd f ps a b s:=rfl
structure Chg (P:Nat→Prop) (h h' :aD):Prop where
 next:h.next≤h'.next
 get:∀i,i<h.next→¬P i→h'.get i=h.get i
def FW (P:Nat→Prop) (h h' :aD):Nat→Prop:=fun i=>P i∨(h.next≤i∧i<h'.next)
structure Kept (P:Nat→Prop) (h h' :aD):Prop where
 next:h.next≤h'.next
 get:∀i,P i→h'.get i=h.get i
theorem Chg.refl (P:Nat→Prop) (h:aD):Chg P h h:=⟨Nat.le_refl _,fun _ _ _=>rfl⟩
theorem Kept.refl (P:Nat→Prop) (h:aD):Kept P h h:=⟨Nat.le_refl _,fun _ _=>rfl⟩
theorem Kept.trans {P:Nat→Prop} {a b c:aD} (h:Kept P a b) (k:Kept P b c):Kept P a c:=⟨Nat.le_trans h.next k.next,fun i hi=>(k.get i hi).trans (h.get i hi)⟩
theorem fV {P:Nat→Prop} {h h' :aD} (k:aP h h'):Chg P h h' :=⟨k.next,fun i hi _=>k.get i hi⟩
theorem wB {P:Nat→Prop} {h h' :aD} (k:aP h h') (hP:∀i,P i→i<h.next):Kept P h h' :=⟨k.next,fun i hi=>k.get i (hP i hi)⟩
theorem XM {P Q:Nat→Prop} {h h' :aD} (k:Kept P h h') (hQ:∀i,Q i→P i):Kept Q h h' :=⟨k.next,fun i hi=>k.get i (hQ i hi)⟩
structure yP (I:(Nat→Prop)→aD→Prop):Prop where
 chg:∀P h h',I P h→Chg P h h' →I (FW P h h') h'
 less:∀P Q h,I P h→(∀i,Q i→P i)→I Q h
structure J4 (fns:Go.Am.F) (orc:Orc) (l:Nat) (xs:List AV) (I:Nat→(Nat→Prop)→aD→Prop) (D:(Nat→Prop)→aD→Prop):Prop where
 ki:∀n,yP (I n)
 kd:yP D
 rnd:∀n x,xs[n]? =some x→∀P h,(∀i,P i→i<h.next)→I n P h→∃h' b,Ev fns orc (.round l [x] h) (.call (.ret (.bool b)) .plain h')∧Kept P h h' ∧(b=true→I (n+1) P h')∧(b=false→D P h')
theorem J4.part {l:Nat} {xs ys:List AV} {I:Nat→(Nat→Prop)→aD→Prop} {D:(Nat→Prop)→aD→Prop} (F:J4 fns orc l xs I D) (a:Nat) (h:∀n,n<ys.length→xs[a+n]? =ys[n]?):J4 fns orc l ys (fun n=>I (a+n)) D:=
 ⟨fun n=>F.ki (a+n),F.kd,fun n x hx=>F.rnd (a+n) x (by rw [h n (List.getElem?_eq_some_iff.1 hx).1,hx])⟩
def rY (fns:Go.Am.F) (orc:Orc) (g:FuncId) (capt xs:List AV) (P:Nat→Prop) (h0:aD):Prop:=
 ∀h l I D,Kept P h0 h→(∀i,P i→i<h.next)→J4 fns orc l xs I D→I 0 P h→
  ∃h',Ev fns orc (.call g (.yield l::capt) .plain h) (.call (.ret jC) .plain h')∧Kept P h h' ∧(I xs.length P h' ∨D P h')
theorem rY.kept {g:FuncId} {capt xs:List AV} {P:Nat→Prop} {h0 h1:aD} (Y:rY fns orc g capt xs P h0) (k:Kept P h0 h1):rY fns orc g capt xs P h1:=
 fun h l I D hk hP F hI=>Y h l I D (k.trans hk) hP F hI
end Go.Am
end
