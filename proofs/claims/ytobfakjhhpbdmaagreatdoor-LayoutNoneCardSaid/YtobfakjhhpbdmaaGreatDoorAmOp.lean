/-
  EACH ABSTRACT OPERATION IS THE MODEL'S: all of them.
-/
import Derived.Test.YtobfakjhhpbdmaaGreatDoorAmOps7
namespace Go.Am
open Go.RowKit

variable {P : Program} {genv : Nat → Option (List AV)} {B : Nat} {w₀ : World} {h : Heap} {m : Mem} {w : World}

theorem opd_sound (W : WR P genv B w₀ h m w) {ts : Tmps} {a : Act} (T : TR m ts a.tmps) (x : Operand) : VR m (ev ts (opd genv x)) (a.eval x) := by
  cases x with
  | tmp t => exact T t
  | const v =>
    show VR m ((ofVal vDepth v).getD .unk) v
    cases hv : ofVal vDepth v with
    | none => exact .unk _
    | some u => exact ofVal_sound _ _ _ hv
  | global g =>
    show VR m (ev ts (match genv g with | some cs => .c (.ep cs 0) | none => .c .unk)) (.pointer (some ⟨g, 0, none⟩))
    cases hg : genv g with
    | none => exact .unk _
    | some cs =>
      obtain ⟨vs, h1, h2⟩ := W.glob g cs hg
      exact .ep cs vs g 0 0 h1.1 h1.2 h2
  | func f => exact .fn f [] [] [] [] rfl (fun i c v hc => by simp at hc) rfl (fun i c v hc => by simp at hc)

theorem opds_sound (W : WR P genv B w₀ h m w) {ts : Tmps} {a : Act} (T : TR m ts a.tmps) (xs : List Operand) : LR m (evL ts (xs.map (opd genv))) (xs.map a.eval) := by
  induction xs with
  | nil => exact LR.nil m
  | cons x xs ih => exact LR.cons (opd_sound W T x) ih

theorem ovr_sound (W : WR P genv B w₀ h m w) {ts : Tmps} {a : Act} (T : TR m ts a.tmps) (x : Option Operand) : OVR m (evO ts (x.map (opd genv))) (x.map a.eval) := by
  cases x with
  | none => exact .none
  | some x => exact .some (opd_sound W T x)

/-- What an operation comes to, here and there. -/
inductive NX (P : Program) (genv : Nat → Option (List AV)) (B : Nat) (w₀ : World) (h : Heap) (m : Mem) (w : World) : ONext → Result Next → Prop
  | val {v : AV} {h' : Heap} {v' : Value} {m' : Mem} {w' : World} : Ext h m h' m' → WR P genv B w₀ h' m' w' → VR m' v v' → NX P genv B w₀ h m w (.val v h') (.ok (.value v') w')
  | skip {h' : Heap} {m' : Mem} {w' : World} : Ext h m h' m' → WR P genv B w₀ h' m' w' → NX P genv B w₀ h m w (.skip h') (.ok .skip w')
  | enter {f : FuncId} {args : List AV} {args' : Array Value} : LR m args args'.toList → NX P genv B w₀ h m w (.enter f args) ((callFunc f args').run P w)
  | round {l lb : Nat} {args : List AV} {args' : Array Value} : m.ρ l = some lb → LR m args args'.toList → NX P genv B w₀ h m w (.round l args) ((Instr.yield lb args').run P w)
  | defer {d : ADef} {d' : Deferred} : DR m d d' → NX P genv B w₀ h m w (.defer d) (.ok (.defer d') w)
  | recover : NX P genv B w₀ h m w .recover (.ok .recover w)
  | panic {v : AV} {v' : Value} : VR m v v' → NX P genv B w₀ h m w (.panic v) (.halt (.panic v') w)

theorem NX.same (W : WR P genv B w₀ h m w) {v : AV} {v' : Value} (hv : VR m v v') : NX P genv B w₀ h m w (.val v h) (.ok (.value v') w) := .val (.refl h m) W hv

theorem orNone_ok {ts : Tmps} {s : String} {x : Option AOp} {nx : ONext} (e : opA ts h (orNone s x) = .ok nx) : ∃ o, x = some o ∧ opA ts h o = .ok nx := by
  cases x with
  | none => cases e
  | some o => exact ⟨o, rfl, e⟩

/-- From a value of the model's that leaves the world. -/
theorem nx_val (W : WR P genv B w₀ h m w) {s : Sem Value} {v : AV} {v' : Value} (h1 : s.run P w = .ok v' w) (h2 : VR m v v') : NX P genv B w₀ h m w (.val v h) ((do pure (.value (← s)) : Sem Next).run P w) := by
  simp only [Sem.run_bind, h1, Result.andThen_ok, Sem.run_pure]; exact .same W h2
theorem nx_new {s : Sem Value} {v : AV} {h' : Heap} (e : ∃ v' m' w', s.run P w = .ok v' w' ∧ VR m' v v' ∧ WR P genv B w₀ h' m' w' ∧ Ext h m h' m') : NX P genv B w₀ h m w (.val v h') ((do pure (.value (← s)) : Sem Next).run P w) := by
  obtain ⟨v', m', w', h1, h2, h3, h4⟩ := e
  simp only [Sem.run_bind, h1, Result.andThen_ok, Sem.run_pure]; exact .val h4 h3 h2

theorem vl_ok {x : R AV} {nx : ONext} (e : vl h x = .ok nx) : ∃ v, x = .ok v ∧ nx = .val v h := by
  obtain ⟨v, hv, e⟩ := R.bind_ok e
  cases e; exact ⟨v, hv, rfl⟩


theorem op_alloc (W : WR P genv B w₀ h m w) {ts : Tmps} {nx : ONext} {t : TypeId} (e : opA ts h (compOp P genv (.alloc t)) = .ok nx) : NX P genv B w₀ h m w nx ((do pure (.value (← Instr.alloc t true (.tuple #[]))) : Sem Next).run P w) := by
  obtain ⟨o, ho, e⟩ := orNone_ok e
  obtain ⟨z, hz, rfl⟩ := Option.map_eq_some_iff.1 ho
  cases e
  exact nx_new (alloc_sound W hz)

theorem op_box (W : WR P genv B w₀ h m w) {ts : Tmps} {a : Act} (T : TR m ts a.tmps) {nx : ONext} {t : TypeId} {x : Operand} (e : opA ts h (compOp P genv (.box t x)) = .ok nx) : NX P genv B w₀ h m w nx ((do pure (.value (← Instr.box t (a.eval x))) : Sem Next).run P w) := by
  have hx := opd_sound W T x
  simp only [compOp, opA, opU2, oBox] at e
  split at e
  · rename_i hk
    cases e
    exact nx_new (box_sound W hx (fun hh => by rw [hh] at hk; cases hk))
  · cases e

theorem op_load (W : WR P genv B w₀ h m w) {ts : Tmps} {a : Act} (T : TR m ts a.tmps) {nx : ONext} {t : TypeId} {x : Operand} (e : opA ts h (compOp P genv (.load t x)) = .ok nx) : NX P genv B w₀ h m w nx ((do pure (.value (← Instr.loadAt t (a.eval x))) : Sem Next).run P w) := by
  obtain ⟨o, ho, e⟩ := orNone_ok e
  obtain ⟨n, hn, rfl⟩ := Option.map_eq_some_iff.1 ho
  obtain ⟨v, hv, rfl⟩ := vl_ok e
  obtain ⟨v', h1, h2⟩ := loadA_sound W hn (opd_sound W T x) hv
  exact nx_val W h1 h2

theorem op_store (W : WR P genv B w₀ h m w) {ts : Tmps} {a : Act} (T : TR m ts a.tmps) {nx : ONext} {t : TypeId} {x y : Operand} (e : opA ts h (compOp P genv (.store t x y)) = .ok nx) : NX P genv B w₀ h m w nx ((do Instr.storeAt t (a.eval x) (a.eval y); pure .skip : Sem Next).run P w) := by
  obtain ⟨o, ho, e⟩ := orNone_ok e
  obtain ⟨n, hn, rfl⟩ := Option.map_eq_some_iff.1 ho
  obtain ⟨h', hv, e⟩ := R.bind_ok e
  cases e
  obtain ⟨w', h1, h2, h3⟩ := storeA_sound W hn (opd_sound W T x) (opd_sound W T y) hv
  simp only [Sem.run_bind, h1, Result.andThen_ok, Sem.run_pure]
  exact .skip (.heap m h3) h2

theorem op_build (W : WR P genv B w₀ h m w) {ts : Tmps} {a : Act} (T : TR m ts a.tmps) {nx : ONext} {t : TypeId} {parts : Array (Nat × Operand)} (e : opA ts h (compOp P genv (.build t parts)) = .ok nx) :
    NX P genv B w₀ h m w nx ((do pure (.value (← Instr.build t (parts.map fun (i, x) => (i, a.eval x)))) : Sem Next).run P w) := by
  obtain ⟨o, ho, e⟩ := orNone_ok e
  split at ho
  · rename_i fs z hu hz
    split at ho
    · rename_i hall
      obtain ⟨ps, hps, rfl⟩ := Option.map_eq_some_iff.1 ho
      obtain ⟨r, hr, e⟩ := R.bind_ok e
      cases e
      obtain ⟨v', h1, h2⟩ := build_struct_sound (w := w) (ts := ts) (ρ := a.eval) hu hz (fun f hf => Option.isSome_iff_exists.1 (List.all_eq_true.1 hall f (by simpa using hf))) hps (fun x => opd_sound W T x) hr
      exact nx_val W h1 h2
    · cases ho
  · rename_i et z hu hz
    obtain ⟨n, hn, rfl⟩ := Option.map_eq_some_iff.1 ho
    obtain ⟨r, hr, e⟩ := R.bind_ok e
    cases e
    obtain ⟨v', h1, h2⟩ := build_array_sound (w := w) (ts := ts) (ρ := a.eval) hu hz hn (fun x => opd_sound W T x) hr
    exact nx_val W h1 h2
  · cases ho

theorem op_bslice (W : WR P genv B w₀ h m w) {ts : Tmps} {a : Act} (T : TR m ts a.tmps) {nx : ONext} {t : TypeId} {len : Nat} {parts : Array (Nat × Operand)} (e : opA ts h (compOp P genv (.buildSlice t len parts)) = .ok nx) :
    NX P genv B w₀ h m w nx ((do pure (.value (← Instr.buildSlice t len (parts.map fun (i, x) => (i, a.eval x)))) : Sem Next).run P w) := by
  obtain ⟨o, ho, e⟩ := orNone_ok e
  split at ho
  · rename_i et hu
    split at ho
    · rename_i n z hn hz
      split at ho
      · rename_i hc
        simp only [Bool.and_eq_true] at hc
        obtain ⟨⟨⟨c1, c2⟩, c3⟩, c4⟩ := hc
        have hlen : parts.size = len := Nat.eq_of_beq_eq_true c4
        subst hlen
        cases ho
        obtain ⟨l, hl, e⟩ := R.bind_ok e
        cases e
        exact nx_new (bslice_sound W (ρ := a.eval) (fun x => opd_sound W T x) hu hn hz (Nat.le_of_ble_eq_true c1) (Nat.le_of_ble_eq_true c2) (fun j q hq => by
          have hm : (q, j) ∈ parts.toList.zipIdx := by
            rw [List.mem_zipIdx_iff_getElem?]; exact hq
          exact Nat.eq_of_beq_eq_true (List.all_eq_true.1 c3 _ hm)) hl)
      · cases ho
    · cases ho
  · cases ho

theorem op_nilchk (W : WR P genv B w₀ h m w) {ts : Tmps} {a : Act} (T : TR m ts a.tmps) {nx : ONext} {o : Oper} {x : Operand} (ho : o.op = .nilCheck x) (e : opA ts h (compOp P genv (.nilCheck x)) = .ok nx) : NX P genv B w₀ h m w nx ((execOp a.eval o).run P w) := by
  have hx := opd_sound W T x
  simp only [compOp, opA, opU1] at e
  generalize ev ts (opd genv x) = y at hx e
  unfold execOp
  rw [ho]
  simp only
  generalize a.eval x = u at hx ⊢
  cases hx with
  | ptr id off b hb => cases e; exact .same W (.ptr _ _ _ hb)
  | ep cs vs b base off h1 h2 h3 => cases e; exact .same W (.ep _ _ _ _ _ h1 h2 h3)
  | fn f f1 c1 fs cs h1 h2 h3 h4 => cases e; exact .same W (.fn _ _ _ _ _ h1 h2 h3 h4)
  | yield l b hb => cases e; exact .same W (.yield _ _ hb)
  | _ => cases e


theorem intArith_sound {op : BinOp} {k : IntKind} {x y : Int} {v : AV} (e : intArith op k x y = .ok v) (hop : op ≠ .shl ∧ op ≠ .shr) (t : TypeId) :
    ∃ v', (binOp op t (.int k x) (.int k y)).run P w = .ok v' w ∧ VR m v v' := by
  cases op with
  | shl => exact absurd rfl hop.1
  | shr => exact absurd rfl hop.2
  | add => cases e; exact ⟨.int k (wr k (x + y)), by simp [binOp, Op.intArith, wr_eq], .int _ _⟩
  | sub => cases e; exact ⟨.int k (wr k (x - y)), by simp [binOp, Op.intArith, wr_eq], .int _ _⟩
  | mul => cases e; exact ⟨.int k (wr k (x * y)), by simp [binOp, Op.intArith, wr_eq], .int _ _⟩
  | quo =>
    simp only [intArith] at e
    split at e
    · cases e
    · rename_i h0
      cases e
      have hy : ¬ y = 0 := by rw [ieq_eq] at h0; simpa using h0
      exact ⟨.int k (wr k (x.tdiv y)), by simp [binOp, Op.intDiv, hy, wr_eq], .int _ _⟩
  | rem =>
    simp only [intArith] at e
    split at e
    · cases e
    · rename_i h0
      cases e
      have hy : ¬ y = 0 := by rw [ieq_eq] at h0; simpa using h0
      exact ⟨_, by simp [binOp, Op.intDiv, hy], .int _ _⟩
  | and => cases e; exact ⟨_, by simp [binOp, Op.intBits], .int _ _⟩
  | or => cases e; exact ⟨_, by simp [binOp, Op.intBits], .int _ _⟩
  | xor => cases e; exact ⟨_, by simp [binOp, Op.intBits], .int _ _⟩
  | andNot => cases e; exact ⟨_, by simp [binOp, Op.intBits], .int _ _⟩
  | eql => cases e; exact ⟨.bool (x == y), by simp [binOp, Op.intCmp], by rw [ieq_eq, int_beq]; exact .bool _⟩
  | neq => cases e; exact ⟨.bool (x != y), by simp [binOp, Op.intCmp], by rw [ieq_eq, bnot_eq, bne, int_beq]; exact .bool _⟩
  | lss => cases e; exact ⟨.bool (x < y), by simp [binOp, Op.intCmp], by rw [ilt_eq]; exact .bool _⟩
  | leq => cases e; exact ⟨.bool (x ≤ y), by simp [binOp, Op.intCmp], by rw [ile_eq]; exact .bool _⟩
  | gtr => cases e; exact ⟨.bool (x > y), by simp [binOp, Op.intCmp], by rw [ilt_eq]; exact .bool _⟩
  | geq => cases e; exact ⟨.bool (x ≥ y), by simp [binOp, Op.intCmp], by rw [ile_eq]; exact .bool _⟩

theorem bytesLess_not (a b : List UInt8) : (!bytesLt b a) = (bytesLt a b || (a == b)) := by
  induction a generalizing b with
  | nil => cases b <;> simp [bytesLt]
  | cons x r ih =>
    cases b with
    | nil => simp [bytesLt]
    | cons y s =>
      have := ih s
      simp only [bytesLt_eq, Op.bytesLess] at this ⊢
      by_cases h1 : x < y
      · have h2 : ¬ y < x := fun h => by have := UInt8.lt_iff_toNat_lt.1 h1; have := UInt8.lt_iff_toNat_lt.1 h; omega
        have h3 : ¬ y = x := fun h => by subst h; exact h2 h1
        simp [h1, h2, h3]
      · by_cases h2 : y < x
        · have h3 : ¬ x = y := fun h => by subst h; exact h1 h2
          simp [h1, h2, h3]
        · have a1 : ¬ x.toNat < y.toNat := fun h => h1 (UInt8.lt_iff_toNat_lt.2 h)
          have a2 : ¬ y.toNat < x.toNat := fun h => h2 (UInt8.lt_iff_toNat_lt.2 h)
          have h3 : x = y := UInt8.toNat_inj.1 (by omega)
          subst h3
          simp [h1]; simpa using this

theorem strArith_sound {op : BinOp} {x y : List UInt8} {v : AV} (e : strArith op x y = .ok v) (t : TypeId) :
    ∃ v', (binOp op t (.string ⟨x.toArray⟩) (.string ⟨y.toArray⟩)).run P w = .ok v' w ∧ VR m v v' := by
  have hx : (⟨x.toArray⟩ : ByteArray).size = x.length := by simp [ByteArray.size]
  have hy : (⟨y.toArray⟩ : ByteArray).size = y.length := by simp [ByteArray.size]
  cases op with
  | add =>
    simp only [strArith] at e
    split at e
    · rename_i hc
      cases e
      have hle : x.length + y.length ≤ 9223372036854775807 := Nat.le_of_ble_eq_true hc
      have hmax : IntKind.max .i64 = 9223372036854775807 := by decide
      have hn : ¬ (((x.length + y.length : Nat) : Int) > IntKind.max .i64) := by rw [hmax]; omega
      refine ⟨.string (⟨x.toArray⟩ ++ ⟨y.toArray⟩), by simp only [binOp, Op.stringOp, hx, hy, if_neg hn]; rfl, ?_⟩
      have : (⟨x.toArray⟩ ++ ⟨y.toArray⟩ : ByteArray) = ⟨(x ++ y).toArray⟩ := by
        apply ByteArray.ext; rw [ByteArray.data_append]; simp
      rw [this]; exact .str _
    · cases e
  | eql => cases e; exact ⟨.bool (x == y), by simp [binOp, Op.stringOp], by rw [bytesEq_eq]; exact .bool _⟩
  | neq => cases e; exact ⟨.bool (!(x == y)), by simp [binOp, Op.stringOp], by rw [bytesEq_eq, bnot_eq]; exact .bool _⟩
  | lss => cases e; exact ⟨.bool (Op.bytesLess x y), by simp [binOp, Op.stringOp], by rw [bytesLt_eq]; exact .bool _⟩
  | leq => cases e; exact ⟨.bool (Op.bytesLess x y || (x == y)), by simp [binOp, Op.stringOp], by rw [bnot_eq, bytesLess_not, bytesLt_eq]; exact .bool _⟩
  | gtr =>
    cases e
    refine ⟨.bool (!(Op.bytesLess x y || (x == y))), by simp [binOp, Op.stringOp], ?_⟩
    rw [← bytesLt_eq, ← bytesLess_not, Bool.not_not]; exact .bool _
  | geq => cases e; exact ⟨.bool (!Op.bytesLess x y), by simp [binOp, Op.stringOp], by rw [bnot_eq, bytesLt_eq]; exact .bool _⟩
  | _ => cases e

theorem binA_sound {op : BinOp} {x y v : AV} {x' y' : Value} (hx : VR m x x') (hy : VR m y y') (e : binA op x y = .ok v) (t : TypeId) : ∃ v', (binOp op t x' y').run P w = .ok v' w ∧ VR m v v' := by
  cases hx with
  | int k a =>
    cases hy with
    | int k' b =>
      cases op with
      | shl =>
        simp only [binA] at e
        split at e
        · rename_i h0
          cases e
          have := ile_iff h0
          have hb : ¬ b < 0 := by omega
          exact ⟨_, by simp only [binOp, Op.shift, if_neg hb, Sem.run_pure], .int _ _⟩
        · cases e
      | shr =>
        simp only [binA] at e
        split at e
        · rename_i h0
          cases e
          have := ile_iff h0
          have hb : ¬ b < 0 := by omega
          exact ⟨_, by simp only [binOp, Op.shift, if_neg hb, Sem.run_pure], .int _ _⟩
        · cases e
      | _ =>
        simp only [binA] at e
        split at e
        · rename_i h0
          have := ki_inj h0
          subst this
          exact intArith_sound e (by simp) t
        · cases e
    | _ => cases e
  | str a =>
    cases hy with
    | str b => exact strArith_sound e t
    | _ => cases e
  | _ => cases e

theorem guard_none {op : BinOp} (h1 : op ≠ .eql) (h2 : op ≠ .neq) (t : TypeId) (x y : Operand) (a b : Value) : (eqGuard op t x y a b).run P w = .ok () w := by
  cases op <;> first | rfl | exact absurd rfl h1 | exact absurd rfl h2

theorem op_bin (W : WR P genv B w₀ h m w) {ts : Tmps} {a : Act} (T : TR m ts a.tmps) {nx : ONext} {op : BinOp} {t yt : TypeId} {x y : Operand} (e : opA ts h (compOp P genv (.binOp op t x y yt)) = .ok nx) :
    NX P genv B w₀ h m w nx ((do pure (.value (← (do eqGuard op t x y (a.eval x) (a.eval y); binOp op t (a.eval x) (a.eval y)))) : Sem Next).run P w) := by
  have hx := opd_sound W T x
  have hy := opd_sound W T y
  have other : op ≠ .eql → op ≠ .neq → opA ts h (.b2 (.bin op) (opd genv x) (opd genv y)) = .ok nx →
      NX P genv B w₀ h m w nx ((do pure (.value (← (do eqGuard op t x y (a.eval x) (a.eval y); binOp op t (a.eval x) (a.eval y)))) : Sem Next).run P w) := by
    intro n1 n2 e
    obtain ⟨v, hv, rfl⟩ := vl_ok e
    obtain ⟨v', h1, h2⟩ := binA_sound (P := P) (w := w) hx hy hv t
    refine nx_val W ?_ h2
    simp only [Sem.run_bind, guard_none n1 n2, Result.andThen_ok, h1]
  cases op with
  | eql =>
    obtain ⟨o, ho, e⟩ := orNone_ok e
    obtain ⟨k, hk, rfl⟩ := Option.map_eq_some_iff.1 ho
    obtain ⟨r, hr, e⟩ := R.bind_ok e
    cases e
    exact nx_val W (eq_sound (w := w) hk hx hy hr false) (.bool _)
  | neq =>
    obtain ⟨o, ho, e⟩ := orNone_ok e
    obtain ⟨k, hk, rfl⟩ := Option.map_eq_some_iff.1 ho
    obtain ⟨r, hr, e⟩ := R.bind_ok e
    cases e
    exact nx_val W (eq_sound (w := w) hk hx hy hr true) (by rw [bnot_eq]; exact .bool _)
  | _ => exact other (by simp) (by simp) e

theorem op_un (W : WR P genv B w₀ h m w) {ts : Tmps} {a : Act} (T : TR m ts a.tmps) {nx : ONext} {op : UnOp} {t : TypeId} {x : Operand} (e : opA ts h (compOp P genv (.unOp op t x)) = .ok nx) :
    NX P genv B w₀ h m w nx ((do pure (.value (← Op.unary op (a.eval x))) : Sem Next).run P w) := by
  have hx := opd_sound W T x
  simp only [compOp, opA, opU2, oUn] at e
  generalize ev ts (opd genv x) = y at hx e
  generalize a.eval x = u at hx ⊢
  split at e
  · rename_i b; cases hx; cases e; exact nx_val W (v' := .bool (bnot b)) (by simp [Op.unary, bnot_eq]) (.bool _)
  · rename_i k n; cases hx; cases e; exact nx_val W (v' := .int k (wr k (0 - n))) (by simp [Op.unary, Op.intArith, wr_eq]) (.int _ _)
  · rename_i k n; cases hx; cases e; exact nx_val W (v' := .int k (k.wrap (BitVec.ofInt k.bits (if k.signed then -1 else k.max) ^^^ BitVec.ofInt k.bits n).toNat)) (by simp [Op.unary, Op.intBits]) (.int _ _)
  · cases e

theorem op_conv (W : WR P genv B w₀ h m w) {ts : Tmps} {a : Act} (T : TR m ts a.tmps) {nx : ONext} {src dst : TypeId} {x : Operand} (e : opA ts h (compOp P genv (.convert src dst x)) = .ok nx) :
    NX P genv B w₀ h m w nx ((do pure (.value (← convert src dst (a.eval x))) : Sem Next).run P w) := by
  have hx := opd_sound W T x
  obtain ⟨o, ho, e⟩ := orNone_ok e
  split at ho
  · rename_i k0 k h1 h2
    cases ho
    simp only [opA, opU2, oCvInt] at e
    generalize ev ts (opd genv x) = y at hx e
    generalize a.eval x = u at hx ⊢
    split at e
    · cases hx; cases e
      rename_i q n
      exact nx_val W (v' := .int k (wr k n)) (by simp only [convert, Sem.run_bind, und_run h1, und_run h2, Result.andThen_ok, Conv.intToInt, Sem.run_pure, wr_eq]) (.int _ _)
    · cases e
  · rename_i h1 h2
    cases ho
    simp only [opA, opU2, oCvStr] at e
    generalize ev ts (opd genv x) = y at hx e
    generalize a.eval x = u at hx ⊢
    split at e
    · cases hx; cases e
      exact nx_val W (by simp only [convert, Sem.run_bind, und_run h1, und_run h2, Result.andThen_ok, Sem.run_pure]) (.str _)
    · cases e
  · rename_i et h1 h2
    split at ho
    · rename_i h3
      cases ho
      simp only [opA, opU2, oCvBytes] at e
      generalize ev ts (opd genv x) = y at hx e
      generalize a.eval x = u at hx ⊢
      split at e
      · cases hx; cases e
        exact nx_new (cvBytes_sound W h1 h2 h3 _)
      · cases e
    · cases ho
  · rename_i et h1 h2
    split at ho
    · rename_i h3
      cases ho
      obtain ⟨s, rfl, h4⟩ := cvText_sound W h1 h3 h2 hx e
      exact nx_val W h4 (.str _)
    · cases ho
  · cases ho

end Go.Am
