/-
  THE EVALUATOR AGAINST THE MACHINE: what is to be shown of each task; one operation.
-/
import Derived.Test.YtobfakjhhpbdmaaGreatDoorAmOpSound
namespace Go.Am
open Go.RowKit

/-- Chains of panics. -/
inductive ChR (m : Mem) : List APanic → List PanicEntry → Prop
  | nil : ChR m [] []
  | cons {p : APanic} {e : PanicEntry} {ps : List APanic} {es : List PanicEntry} : VR m p.v e.v → e.recovered = p.recovered → e.goexit = false → ChR m ps es → ChR m (p :: ps) (e :: es)
theorem ChR.mono {m m' : Mem} (h : m.Le m') {a : List APanic} {d : List PanicEntry} (r : ChR m a d) : ChR m' a d := by
  induction r with
  | nil => exact .nil
  | cons h1 h2 h3 _ ih => exact .cons (h1.mono h) h2 h3 ih
theorem ChR.append {m : Mem} {a b : List APanic} {c d : List PanicEntry} (h : ChR m a c) (k : ChR m b d) : ChR m (a ++ b) (c ++ d) := by
  induction h with
  | nil => exact k
  | cons h1 h2 h3 _ ih => exact .cons h1 h2 h3 ih

/-- How a frame stands to its callers: as it was entered (first), as it is now (last). -/
inductive KR (m : Mem) (kind : CallKind) : List Frame → RC → List Frame → Prop
  | plain {cs : List Frame} : kind = .normal → KR m kind cs .plain cs
  | ret {c : Frame} {rest : List Frame} : kind = .deferred → c.mode = .returning → KR m kind (c :: rest) .ret (c :: rest)
  | pan {c : Frame} {rest : List Frame} {chain : List APanic} {ch : List PanicEntry} : kind = .deferred → ChR m chain ch → KR m kind (c :: rest) (.pan chain) ({ c with mode := .panicking ch } :: rest)
theorem KR.mono {m m' : Mem} (h : m.Le m') {kind : CallKind} {cs0 cs : List Frame} {rc : RC} (r : KR m kind cs0 rc cs) : KR m' kind cs0 rc cs := by
  cases r with
  | plain e => exact .plain e
  | ret e k => exact .ret e k
  | pan e k => exact .pan e (k.mono h)

structure SR (m : Mem) (s : St) (a : Act) (n : Nat) : Prop where
  tmps : TR m s.tmps a.tmps
  size : n ≤ a.tmps.size
  defers : DL m s.defers a.defers

def RdR (m : Mem) : Option Nat → Option Nat → Prop
  | none, none => True
  | some l, some lb => m.ρ l = some lb
  | _, _ => False
theorem RdR.mono {m m' : Mem} (h : m.Le m') {rd ro : Option Nat} (r : RdR m rd ro) : RdR m' rd ro := by
  cases rd <;> cases ro <;> first | exact r | exact h.ρ _ _ r

structure FR (m : Mem) (fn : FuncId) (rd : Option Nat) (b : Frame) : Prop where
  fn : b.fn = fn
  rd : RdR m rd b.roundOf
theorem FR.mono {m m' : Mem} (h : m.Le m') {fn : FuncId} {rd : Option Nat} {b : Frame} (r : FR m fn rd b) : FR m' fn rd b := ⟨r.fn, r.rd.mono h⟩

/-- How code ends, on the frame. -/
def CodeOut (b : Frame) (k : List Item) (m : Mem) (a : Act) (fr : Frame) : Exit → Prop
  | .normal => fr = b.atR a k
  | .exit id => ∃ k1, fr = b.atR a (.code (.exit id) :: k1) ∧ exitTo id k1 = exitTo id k
  | .ret => ∃ k1, fr = b.atR a (.code .ret :: k1)
  | .panic ch => ∃ k1 ch', fr = { b.atR a k1 with mode := .panicking ch' } ∧ ChR m ch ch'

section
variable (P : Program) (genv : Nat → Option (List AV)) (B : Nat) (w₀ : World)

/-- From a machine the code comes to an end, with what is known. -/
def Lands (n : Nat) (b : Frame) (cs0 : List Frame) (k : List Item) (h : Heap) (m : Mem) (m0 : Machine) (x : Exit) (s : St) : Prop :=
  ∃ a' m' w' cs' fr, Steps P m0 (lone fr cs' w') ∧ CodeOut b k m' a' fr x ∧ SR m' s a' n ∧ WR P genv B w₀ s.heap m' w' ∧ KR m' b.kind cs0 s.rc cs' ∧ Ext h m s.heap m'

def LeaveX (m : Mem) (w : World) (f : FuncId) (fr : Frame) : CExit → Prop
  | .ret v => fr.mode = .returning ∧ ∃ fn v', P.funcs[f]? = some fn ∧ (results fn fr.tmps).run P w = .ok v' w ∧ VR m v v'
  | .panic ch => ∃ ch', fr.mode = .panicking ch' ∧ ChR m ch ch'

/-- From a machine the call comes to its frame's leaving. -/
def Leaves (f : FuncId) (kind : CallKind) (cs0 : List Frame) (h : Heap) (m : Mem) (m0 : Machine) (x : CExit) (rc : RC) (h' : Heap) : Prop :=
  ∃ m' w' cs' fr, Steps P m0 (lone fr cs' w') ∧ fr.fn = f ∧ fr.kind = kind ∧ fr.defers = [] ∧ (∃ fn, P.funcs[f]? = some fn) ∧ LeaveX P m' w' f fr x ∧ KR m' kind cs0 rc cs' ∧ WR P genv B w₀ h' m' w' ∧ Ext h m h' m'

def BackX (m : Mem) (c fr : Frame) : CExit → Prop
  | .ret v => ∃ v', VR m v v' ∧ fr = c.finish v'
  | .panic ch => ∃ ch', ChR m ch ch' ∧ fr = c.raise ch'

/-- From a machine one is back in the caller. -/
def Backs (c : Frame) (cs : List Frame) (h : Heap) (m : Mem) (m0 : Machine) (x : CExit) (h' : Heap) : Prop :=
  ∃ m' w' fr, Steps P m0 (lone fr cs w') ∧ BackX m' c fr x ∧ WR P genv B w₀ h' m' w' ∧ Ext h m h' m'

def ModeR (m : Mem) : Option (List APanic) → FrameMode → Prop
  | none, .returning => True
  | some ch, .panicking ch' => ChR m ch ch'
  | _, _ => False

def Starts (code : Code) (it : Item) : Prop := it = .code code ∨ ∃ c, code = .loop c ∧ it = .inLoop c

def TaskSound : Task → Ans → Prop
  | .code fn rd c s, ans => ∀ (n : Nat) (code : Code) (it : Item) (m : Mem) (w : World) (b : Frame) (a : Act) (k : List Item) (cs0 cs : List Frame),
      CR P genv n code c → Starts code it → FR m fn rd b → SR m s a n → WR P genv B w₀ s.heap m w → KR m b.kind cs0 s.rc cs →
        ∃ x s', ans = .code x s' ∧ Lands P genv B w₀ n b cs0 k s.heap m (lone (b.atR a (it :: k)) cs w) x s'
  | .call f args rc h, ans => ∀ (args' : Array Value) (m : Mem) (w : World) (kind : CallKind) (cs0 cs : List Frame),
      LR m args args'.toList → WR P genv B w₀ h m w → KR m kind cs0 rc cs →
        ∃ x rc' h', ans = .call x rc' h' ∧ (callFunc f args').run P w = .ok (.enter f args') w ∧ Leaves P genv B w₀ f kind cs0 h m (lone (Frame.enter P f args' kind) cs w) x rc' h'
  | .unwind f mode s, ans => ∀ (fr : Frame) (m : Mem) (w : World) (cs0 cs : List Frame), fr.fn = f → (∃ fn, P.funcs[f]? = some fn) → ModeR m mode fr.mode → DL m s.defers fr.defers → TR m s.tmps fr.tmps →
      WR P genv B w₀ s.heap m w → KR m fr.kind cs0 s.rc cs → ∃ x rc' h', ans = .call x rc' h' ∧ Leaves P genv B w₀ f fr.kind cs0 s.heap m (lone fr cs w) x rc' h'
  | .round l args h, ans => ∀ (lb : Nat) (args' : Array Value) (m : Mem) (w : World) (c : Frame) (cs : List Frame), m.ρ l = some lb → LR m args args'.toList → WR P genv B w₀ h m w →
      ∃ x h', ans = .call x .plain h' ∧ ∃ f t as bd, (Instr.yield lb args').run P w = .ok (.round lb f t as bd) w ∧ Backs P genv B w₀ c cs h m (lone (Frame.round lb f t as bd .normal) (c :: cs) w) x h'

def SoundRec (rec : Task → R Ans) : Prop := ∀ t ans, rec t = .ok ans → TaskSound P genv B w₀ t ans
end

variable {P : Program} {genv : Nat → Option (List AV)} {B : Nat} {w₀ : World}

theorem Lands.head {n : Nat} {b : Frame} {cs0 : List Frame} {k : List Item} {h : Heap} {m : Mem} {m0 m1 : Machine} {x : Exit} {s : St} (hs : Steps P m0 m1) (L : Lands P genv B w₀ n b cs0 k h m m1 x s) :
    Lands P genv B w₀ n b cs0 k h m m0 x s := by
  obtain ⟨a', m', w', cs', fr, h1, h2⟩ := L
  exact ⟨a', m', w', cs', fr, hs.trans h1, h2⟩
theorem Lands.ext {n : Nat} {b : Frame} {cs0 : List Frame} {k : List Item} {h h1 : Heap} {m m1 : Mem} {m0 : Machine} {x : Exit} {s : St} (E : Ext h m h1 m1) (L : Lands P genv B w₀ n b cs0 k h1 m1 m0 x s) :
    Lands P genv B w₀ n b cs0 k h m m0 x s := by
  obtain ⟨a', m', w', cs', fr, h1, h2, h3, h4, h5, h6⟩ := L
  exact ⟨a', m', w', cs', fr, h1, h2, h3, h4, h5, E.trans h6⟩

/-- Code that comes to its end, and what follows. -/
theorem Lands.then {n : Nat} {b : Frame} {cs0 : List Frame} {k k1 : List Item} {h : Heap} {m : Mem} {m0 : Machine} {x : Exit} {s1 s2 : St} (L : Lands P genv B w₀ n b cs0 k1 h m m0 .normal s1)
    (H : ∀ a1 m1 w1 cs1, SR m1 s1 a1 n → WR P genv B w₀ s1.heap m1 w1 → KR m1 b.kind cs0 s1.rc cs1 → m.Le m1 → Lands P genv B w₀ n b cs0 k s1.heap m1 (lone (b.atR a1 k1) cs1 w1) x s2) :
    Lands P genv B w₀ n b cs0 k h m m0 x s2 := by
  obtain ⟨a', m', w', cs', fr, h1, h2, h3, h4, h5, h6⟩ := L
  cases h2
  exact (Lands.ext h6 (H a' m' w' cs' h3 h4 h5 h6.le)).head h1

theorem opA_defer {ts : Tmps} {h : Heap} {c : Call} {nx : ONext} (e : opA ts h (compOp P genv (.defer c)) = .ok nx) : ∃ d, nx = .defer d := by
  simp only [compOp] at e
  split at e
  · simp only [opA, opO3, oDefer] at e
    split at e
    · cases e; exact ⟨_, rfl⟩
    · cases e
  · cases e

section
variable {n i : Nat} {b : Frame} {a : Act} {k : List Item} {cs0 cs : List Frame} {w : World} {m : Mem} {ops : Array Oper} {o : Oper} {rest : List Nat} {fn : FuncId} {rd : Option Nat} {s : St}

theorem finish_op (ho : ops[i]? = some o) (v : Value) : (b.atR a (.inRegion ops (i :: rest) :: k)).finish v = b.atR (a.put o.dst v) (.inRegion ops rest :: k) := by
  rw [Frame.finish_atR, ho]; rfl

theorem SR.put (S : SR m s a n) {d : Option Nat} (hd : dstOk n d = true) {x : AV} {v : Value} (hv : VR m x v) (h : Heap) : SR m ⟨tput d x s.tmps, s.defers, s.rc, h⟩ (a.put d v) n := by
  have key := S.tmps.put d (x := x) (v := v) (fun t e => by subst e; exact Nat.lt_of_lt_of_le (by simpa [dstOk, Nat.blt_eq] using hd) S.size) hv
  cases d with
  | none => exact ⟨key, S.size, S.defers⟩
  | some d => exact ⟨key, by simpa [Act.put] using S.size, S.defers⟩
theorem SR.mono {m m' : Mem} {s : St} {a : Act} {n : Nat} (h : m.Le m') (S : SR m s a n) : SR m' s a n := ⟨S.tmps.mono h, S.size, S.defers.mono h⟩

/-- An operation's value is put. -/
theorem lands_put (ho : ops[i]? = some o) (hd : dstOk n o.dst = true) (S : SR m s a n) {m0 : Machine} {m' : Mem} {w' : World} {cs' : List Frame} {x : AV} {v : Value} {h' : Heap} (hv : VR m' x v)
    (W' : WR P genv B w₀ h' m' w') (K : KR m' b.kind cs0 s.rc cs') (E : Ext s.heap m h' m')
    (hs : Steps P m0 (lone ((b.atR a (.inRegion ops (i :: rest) :: k)).finish v) cs' w')) :
    Lands P genv B w₀ n b cs0 (.inRegion ops rest :: k) s.heap m m0 .normal ⟨tput o.dst x s.tmps, s.defers, s.rc, h'⟩ := by
  rw [finish_op ho] at hs
  exact ⟨_, m', w', cs', _, hs, rfl, (S.mono E.le).put hd hv h', W', K, E⟩

theorem guard_sound {g : Option (Nat × Bool)} (hg : compGuard ops o = some g) (T : TR m s.tmps a.tmps) {r : Bool} (e : wantedA s.tmps g = .ok r) : Region.wanted o (yielded ops a.tmps) = r := by
  unfold compGuard at hg
  unfold Region.wanted
  split at hg
  · rename_i h0
    cases hg
    cases e
    simp [h0]
  · rename_i j want h0
    split at hg
    · rename_i t ht
      cases hg
      simp only [h0, yielded, ht, Option.bind_some]
      simp only [wantedA] at e
      have hv := T t
      have hget : ∀ u, a.tmps.getD t undef = u → u ≠ undef → a.tmps[t]? = some u := fun u h1 h2 => by
        by_cases hlt : t < a.tmps.size
        · have : a.tmps.getD t undef = a.tmps[t] := by simp [hlt]
          rw [Array.getElem?_eq_getElem hlt, ← this, h1]
        · have : a.tmps.getD t undef = undef := by simp [hlt]
          exact absurd (h1.symm.trans this) h2
      generalize tget s.tmps t = x at hv e
      generalize hu : a.tmps.getD t undef = u at hv
      split at e
      · cases hv
        cases e
        rename_i b'
        rw [hget _ hu (by intro hh; cases hh)]
        cases b' <;> cases want <;> rfl
      · cases e
      · rename_i hn1 hn2
        cases e
        have hnb : ∀ c, u ≠ .bool c := fun c hc => by
          subst hc
          cases hv with
          | bool => exact hn1 _ rfl
          | unk => exact hn2 rfl
        by_cases hlt : t < a.tmps.size
        · have : a.tmps[t]? = some u := by
            rw [Array.getElem?_eq_getElem hlt, ← hu]; simp [hlt]
          rw [this]
          cases u <;> first | rfl | exact absurd rfl (hnb _)
        · rw [Array.getElem?_eq_none (Nat.le_of_not_lt hlt)]; rfl
    · cases hg

/-! ### One operation -/
theorem semAt_exec (hop : b.roundOf = none ∨ ∀ c, o.op ≠ .defer c) : Oper.semAt b.roundOf a.eval o = execOp a.eval o := by
  rcases hop with h | h
  · rw [h]; rfl
  · exact Oper.semAt_eq _ _ _ h

theorem step_value (ho : ops[i]? = some o) (hw : Region.wanted o (yielded ops a.tmps) = true) (hop : b.roundOf = none ∨ ∀ c, o.op ≠ .defer c) {v : Value} {w' : World}
    (hr : (execOp a.eval o).run P w = .ok (.value v) w') :
    step P (lone (b.atR a (.inRegion ops (i :: rest) :: k)) cs w) = .next (lone ((b.atR a (.inRegion ops (i :: rest) :: k)).finish v) cs w') :=
  step_lone_go (by rw [stepGR_op ho hw, semAt_exec hop]; simp [stepG.apply, Sem.runT_eq, hr])
theorem step_skipOp (ho : ops[i]? = some o) (hw : Region.wanted o (yielded ops a.tmps) = true) (hop : b.roundOf = none ∨ ∀ c, o.op ≠ .defer c) {w' : World}
    (hr : (execOp a.eval o).run P w = .ok .skip w') :
    step P (lone (b.atR a (.inRegion ops (i :: rest) :: k)) cs w) = .next (lone ((b.atR a (.inRegion ops (i :: rest) :: k)).finish undef) cs w') :=
  step_lone_go (by rw [stepGR_op ho hw, semAt_exec hop]; simp [stepG.apply, Sem.runT_eq, hr])
theorem step_panicOp (ho : ops[i]? = some o) (hw : Region.wanted o (yielded ops a.tmps) = true) (hop : b.roundOf = none ∨ ∀ c, o.op ≠ .defer c) {v : Value} {w' : World}
    (hr : (execOp a.eval o).run P w = .halt (.panic v) w') :
    step P (lone (b.atR a (.inRegion ops (i :: rest) :: k)) cs w) = .next (lone { b.atR a (.inRegion ops (i :: rest) :: k) with mode := .panicking [{ v, recovered := false }] } cs w') :=
  step_lone_go (by rw [stepGR_op ho hw, semAt_exec hop, ← Frame.raise_atR]; simp [stepG.apply, Sem.runT_eq, hr])
theorem step_enterOp (ho : ops[i]? = some o) (hw : Region.wanted o (yielded ops a.tmps) = true) (hop : b.roundOf = none ∨ ∀ c, o.op ≠ .defer c) {f : FuncId} {args : Array Value} {w' : World}
    (hr : (execOp a.eval o).run P w = .ok (.enter f args) w') :
    step P (lone (b.atR a (.inRegion ops (i :: rest) :: k)) cs w) = .next (lone (Frame.enter P f args .normal) (b.atR a (.inRegion ops (i :: rest) :: k) :: cs) w') :=
  step_lone_go (by rw [stepGR_op ho hw, semAt_exec hop]; simp [stepG.apply, Sem.runT_eq, hr, Frame.atR])
theorem step_roundOp (ho : ops[i]? = some o) (hw : Region.wanted o (yielded ops a.tmps) = true) (hop : b.roundOf = none ∨ ∀ c, o.op ≠ .defer c) {l f : Nat} {t : Array Value} {as bd : Code} {w' : World}
    (hr : (execOp a.eval o).run P w = .ok (.round l f t as bd) w') :
    step P (lone (b.atR a (.inRegion ops (i :: rest) :: k)) cs w) = .next (lone (Frame.round l f t as bd .normal) (b.atR a (.inRegion ops (i :: rest) :: k) :: cs) w') :=
  step_lone_go (by rw [stepGR_op ho hw, semAt_exec hop]; simp [stepG.apply, Sem.runT_eq, hr, Frame.atR])
theorem step_deferOp (ho : ops[i]? = some o) (hw : Region.wanted o (yielded ops a.tmps) = true) (hop : b.roundOf = none) {d : Deferred} {w' : World}
    (hr : (execOp a.eval o).run P w = .ok (.defer d) w') :
    step P (lone (b.atR a (.inRegion ops (i :: rest) :: k)) cs w) = .next (lone (b.atR ({ a with defers := d :: a.defers }.put o.dst undef) (.inRegion ops rest :: k)) cs w') := by
  have : ({ b.atR a (.inRegion ops (i :: rest) :: k) with defers := d :: a.defers } : Frame).finish undef = b.atR ({ a with defers := d :: a.defers }.put o.dst undef) (.inRegion ops rest :: k) := by
    have := Frame.finish_atR b { a with defers := d :: a.defers } ops i rest k undef
    rw [ho] at this; exact this
  refine step_lone_go (by rw [stepGR_op ho hw, semAt_exec (.inl hop)]; simp only [stepG.apply, Sem.runT_eq, hr, GStep.bare_after, if_true]; exact congrArg (fun fr => GStep.go { frame := fr, callers := cs, status := .running, dying := none } w') this)
theorem step_recoverOp (ho : ops[i]? = some o) (hw : Region.wanted o (yielded ops a.tmps) = true) (hop : b.roundOf = none) {w' : World} {v : Value} {cs' : List Frame}
    (hr : (execOp a.eval o).run P w = .ok .recover w')
    (ht : tryRecover (b.atR a (.inRegion ops (i :: rest) :: k)) cs = some (v, cs') ∨ (tryRecover (b.atR a (.inRegion ops (i :: rest) :: k)) cs = none ∧ v = .nilIface ∧ cs' = cs)) :
    step P (lone (b.atR a (.inRegion ops (i :: rest) :: k)) cs w) = .next (lone ((b.atR a (.inRegion ops (i :: rest) :: k)).finish v) cs' w') := by
  have hro : (b.atR a (.inRegion ops (i :: rest) :: k)).roundOf = none := hop
  refine step_lone_go (by
    rw [stepGR_op ho hw, semAt_exec (.inl hop)]
    simp only [stepG.apply, Sem.runT_eq, hr, GStep.bare_after, if_true, hro]
    rcases ht with h | ⟨h, rfl, rfl⟩ <;> simp [h])

/-- Back from a call, into the region. -/
theorem back_op (ho : ops[i]? = some o) (hd : dstOk n o.dst = true) (S : SR m s a n) (K : KR m b.kind cs0 s.rc cs) {m0 : Machine} {x : CExit} {h' : Heap}
    (Bk : Backs P genv B w₀ (b.atR a (.inRegion ops (i :: rest) :: k)) cs s.heap m m0 x h') {rc : RC} {y : Exit} {s' : St} {ao : AOper} (had : ao.dst = o.dst) (e : called ao s (.call x rc h') = .ok (y, s')) :
    Lands P genv B w₀ n b cs0 (.inRegion ops rest :: k) s.heap m m0 y s' := by
  obtain ⟨m', w', fr, h1, h2, h3, h4⟩ := Bk
  cases x with
  | ret v =>
    obtain ⟨v', hv, rfl⟩ := h2
    cases e
    rw [had]
    exact lands_put ho hd S hv h3 (K.mono h4.le) h4 h1
  | panic ch =>
    obtain ⟨ch', hc, rfl⟩ := h2
    cases e
    exact ⟨a, m', w', cs, _, h1, ⟨_, ch', rfl, hc⟩, ⟨(S.mono h4.le).tmps, S.size, (S.mono h4.le).defers⟩, h3, K.mono h4.le, h4⟩

theorem backs_of_leaves {f : FuncId} {c : Frame} {h h' : Heap} {m0 : Machine} {x : CExit} {rc : RC} (L : Leaves P genv B w₀ f .normal (c :: cs) h m m0 x rc h') : Backs P genv B w₀ c cs h m m0 x h' ∧ rc = .plain := by
  obtain ⟨m', w', cs', fr, h1, h2, h3, h4, ⟨fn, h5⟩, h6, h7, h8, h9⟩ := L
  cases h7 with
  | plain _ =>
    refine ⟨?_, rfl⟩
    cases x with
    | ret v =>
      obtain ⟨k1, fn', v', k2, k3, k4⟩ := h6
      exact ⟨m', w', _, h1.trans (.one (step_leave_returned ⟨k1, h4, h3, fn', by rw [h2]; exact k2, k3⟩)), ⟨v', k4, rfl⟩, h8, h9⟩
    | panic ch =>
      obtain ⟨ch', k1, k2⟩ := h6
      exact ⟨m', w', _, h1.trans (.one (step_leave_panicked ⟨k1, h4, fn, by rw [h2]; exact h5⟩)), ⟨ch', k2, rfl⟩, h8, h9⟩
  | ret e _ => cases e
  | pan e _ => cases e

theorem recoverA_inv {ao : AOper} {y : Exit} {s' : St} (e : recoverA rd ao s = .ok (y, s')) : rd = none ∧ y = .normal ∧
    ((s.rc = .ret ∧ s' = ⟨tput ao.dst .nilif s.tmps, s.defers, s.rc, s.heap⟩) ∨
     (∃ v older, s.rc = .pan ({ v, recovered := false } :: older) ∧ s' = ⟨tput ao.dst v s.tmps, s.defers, .pan ({ v, recovered := true } :: older), s.heap⟩) ∨
     (∃ ch, s.rc = .pan ch ∧ (∀ v older, ch ≠ { v, recovered := false } :: older) ∧ s' = ⟨tput ao.dst .nilif s.tmps, s.defers, s.rc, s.heap⟩)) := by
  obtain ⟨ts, ds, rc, hp⟩ := s
  cases rd with
  | some l => cases rc <;> cases e
  | none =>
    cases rc with
    | plain => cases e
    | ret => cases e; exact ⟨rfl, rfl, .inl ⟨rfl, rfl⟩⟩
    | pan ch =>
      cases ch with
      | nil => cases e; exact ⟨rfl, rfl, .inr (.inr ⟨[], rfl, (fun _ _ hh => by cases hh), rfl⟩)⟩
      | cons p ps =>
        obtain ⟨v, r⟩ := p
        cases r with
        | false => cases e; exact ⟨rfl, rfl, .inr (.inl ⟨v, ps, rfl, rfl⟩)⟩
        | true => cases e; exact ⟨rfl, rfl, .inr (.inr ⟨_, rfl, (fun _ _ hh => by cases hh), rfl⟩)⟩

theorem stepOper_sound {rec : Task → R Ans} (hrec : SoundRec P genv B w₀ rec) (ho : ops[i]? = some o) (F : FR m fn rd b) (S : SR m s a n) (W : WR P genv B w₀ s.heap m w) (K : KR m b.kind cs0 s.rc cs)
    {y : Exit} {s' : St} (e : stepOper rec rd (compOper P genv n ops o) s = .ok (y, s')) :
    Lands P genv B w₀ n b cs0 (.inRegion ops rest :: k) s.heap m (lone (b.atR a (.inRegion ops (i :: rest) :: k)) cs w) y s' := by
  unfold compOper at e
  split at e
  · rename_i g hg hd
    unfold stepOper at e
    obtain ⟨r, hr, e⟩ := R.bind_ok e
    have hw := guard_sound hg S.tmps hr
    cases r with
    | false =>
      cases e
      have hs := stepR_op_skip (P := P) (b := b) (a := a) (k := k) (cs := cs) (w := w) (ops := ops) (i := i) (rest := rest) (by simp [ho, hw])
      rw [← Frame.finish_atR] at hs
      exact lands_put ho hd S (.tup [] [] rfl (fun i c v hc => by simp at hc)) W K (.refl _ _) (.one hs)
    | true =>
      obtain ⟨nx, hnx, e⟩ := R.bind_ok e
      have N := op_sound W S.tmps o hnx
      have hop : rd = none ∨ ∀ c, o.op ≠ .defer c := by
        cases rd with
        | none => exact .inl rfl
        | some l =>
          refine .inr fun c hc => ?_
          rw [hc] at hnx
          obtain ⟨d, rfl⟩ := opA_defer (P := P) hnx
          cases e
      have hop' : b.roundOf = none ∨ ∀ c, o.op ≠ .defer c := by
        rcases hop with h | h
        · subst h
          have := F.rd
          cases hb : b.roundOf with
          | none => exact .inl rfl
          | some l => rw [hb] at this; exact this.elim
        · exact .inr h
      generalize hres : (execOp a.eval o).run P w = res at N
      cases N with
      | val E W' hv =>
        cases e
        exact lands_put ho hd S hv W' (K.mono E.le) E (.one (step_value ho hw hop' hres))
      | skip E W' =>
        cases e
        exact lands_put ho hd S (.tup [] [] rfl (fun i c v hc => by simp at hc)) W' (K.mono E.le) E (.one (step_skipOp ho hw hop' hres))
      | @enter f args args' ha =>
        obtain ⟨ans, hans, e⟩ := R.bind_ok e
        obtain ⟨x, rc', h', rfl, hcf, L⟩ := hrec _ _ hans args' m w .normal (b.atR a (.inRegion ops (i :: rest) :: k) :: cs) _ ha W (.plain rfl)
        obtain ⟨Bk, _⟩ := backs_of_leaves L
        exact (back_op ho hd S K Bk rfl e).head (.one (step_enterOp ho hw hop' (hres.trans hcf)))
      | @round l lb args args' hl ha =>
        obtain ⟨ans, hans, e⟩ := R.bind_ok e
        obtain ⟨x, h', rfl, f, t, as, bd, hy, Bk⟩ := hrec _ _ hans lb args' m w (b.atR a (.inRegion ops (i :: rest) :: k)) cs hl ha W
        exact (back_op ho hd S K Bk rfl e).head (.one (step_roundOp ho hw hop' (hres.trans hy)))
      | @defer d d' hdd =>
        cases rd with
        | some l => cases e
        | none =>
          have hb : b.roundOf = none := by
            have := F.rd
            cases hb : b.roundOf with
            | none => rfl
            | some l => rw [hb] at this; exact this.elim
          cases e
          have S' : SR m ⟨s.tmps, d :: s.defers, s.rc, s.heap⟩ { a with defers := d' :: a.defers } n := ⟨S.tmps, S.size, .cons hdd S.defers⟩
          exact ⟨_, m, w, cs, _, .one (step_deferOp ho hw hb hres), rfl, S'.put hd (.tup [] [] rfl (fun i c v hc => by simp at hc)) s.heap, W, K, .refl _ _⟩
      | recover =>
        have hb : rd = none → b.roundOf = none := fun h => by
          have := F.rd
          subst h
          cases hb : b.roundOf with
          | none => rfl
          | some l => rw [hb] at this; exact this.elim
        rcases recoverA_inv e with ⟨rfl, rfl, ⟨hrc, rfl⟩ | ⟨v, older, hrc, rfl⟩ | ⟨ch, hrc, hnr, rfl⟩⟩
        · have K' := K
          rw [hrc] at K'
          cases K' with
          | ret hk hm =>
            refine lands_put ho hd S .nilif W K (.refl _ _) (.one (step_recoverOp ho hw (hb rfl) hres (.inr ⟨?_, rfl, rfl⟩)))
            simp [tryRecover, Frame.atR, hk, hm]
        · rw [hrc] at K
          cases K with
          | @pan c rest' _ ch' hk hc =>
            cases hc with
            | @cons _ en _ es hv hrec' hgo hch =>
              obtain ⟨ev, er, eg⟩ := en
              simp only at hv hrec' hgo
              subst hrec' hgo
              have st := step_recoverOp (P := P) (k := k) (rest := rest) (cs := { c with mode := .panicking ({ v := ev, recovered := false } :: es) } :: rest') (v := ev)
                (cs' := { c with mode := .panicking ({ v := ev, recovered := true } :: es) } :: rest') ho hw (hb rfl) hres (.inl (by simp [tryRecover, Frame.atR, hk]))
              refine ⟨_, m, w, _, _, .one st, finish_op ho ev, ?_, W, ?_, .refl _ _⟩
              · have := S.put hd hv s.heap
                exact ⟨this.tmps, this.size, this.defers⟩
              · exact .pan hk (.cons hv rfl rfl hch)
        · have K' := K
          rw [hrc] at K'
          cases K' with
          | @pan c rest' _ ch' hk hc =>
            refine lands_put ho hd S .nilif W K (.refl _ _) (.one (step_recoverOp ho hw (hb rfl) hres (.inr ⟨?_, rfl, rfl⟩)))
            cases hc with
            | nil => simp [tryRecover, Frame.atR, hk]
            | @cons p en ps es hv hrec' hgo hch =>
              obtain ⟨pv, pr⟩ := p
              obtain ⟨ev, er, eg⟩ := en
              simp only at hv hrec' hgo
              subst hrec' hgo
              cases er with
              | true => simp [tryRecover, Frame.atR, hk]
              | false => exact absurd rfl (hnr _ _)
      | panic hv =>
        cases e
        exact ⟨a, m, w, cs, _, .one (step_panicOp ho hw hop' hres), ⟨_, _, rfl, .cons hv rfl rfl .nil⟩, S, W, K, .refl _ _⟩
  · cases hw : wantedA s.tmps none with
    | ok r =>
      unfold stepOper at e
      obtain ⟨r, hr, e⟩ := R.bind_ok e
      cases hr
      cases e
    | no => cases hw

end
end Go.Am
