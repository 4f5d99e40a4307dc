/-
  THE EVALUATOR AGAINST THE MACHINE: code, calls, unwinding, rounds.
-/
import Derived.Test.YtobfakjhhpbdmaaGreatDoorAmStep
namespace Go.Am
open Go.RowKit

variable {P : Program} {genv : Nat → Option (List AV)} {B : Nat} {w₀ : World}

section
variable {n : Nat} {b : Frame} {a : Act} {k : List Item} {cs0 cs : List Frame} {w : World} {m : Mem} {fn : FuncId} {rd : Option Nat} {s : St}

theorem stepR_scope {c : Code} : step P (lone (b.atR a (.code (.scope c) :: k)) cs w) = .next (lone (b.atR a (.code c :: .inScope c :: k)) cs w) :=
  step_lone_go (by simp [stepG, stepG.exec, Frame.atR])
theorem stepR_inScope {c : Code} : step P (lone (b.atR a (.inScope c :: k)) cs w) = .next (lone (b.atR a k) cs w) :=
  step_lone_go (by simp [stepG, stepG.exec, Frame.atR])

/-- What a region drawn by lot is to show. -/
def DregSound (P : Program) (genv : Nat → Option (List AV)) (B : Nat) (w₀ : World) (rec : Task → R Ans) : Prop :=
  ∀ (n : Nat) (ops : Array Oper) (id : Nat) (kp : Nat → Option (List Nat)) (fn : FuncId) (rd : Option Nat) (s : St) (m : Mem) (w : World) (b : Frame) (a : Act) (k : List Item) (cs0 cs : List Frame) (ans : Ans),
    FR m fn rd b → SR m s a n → WR P genv B w₀ s.heap m w → KR m b.kind cs0 s.rc cs → codeA rec fn rd (comp P genv n kp (.region id ops true)) s = .ok ans →
      ∃ x s', ans = .code x s' ∧ Lands P genv B w₀ n b cs0 k s.heap m (lone (b.atR a (.code (.region id ops true) :: k)) cs w) x s'

/-- The other exits pass on. -/
theorem Lands.pass {h : Heap} {m0 : Machine} {k1 : List Item} {x : Exit} {s1 : St} (L : Lands P genv B w₀ n b cs0 k1 h m m0 x s1) (hx : x ≠ .normal)
    (hk : ∀ id, x = .exit id → exitTo id k1 = exitTo id k) : Lands P genv B w₀ n b cs0 k h m m0 x s1 := by
  obtain ⟨a', m', w', cs', fr, h1, h2, h3⟩ := L
  refine ⟨a', m', w', cs', fr, h1, ?_, h3⟩
  cases x with
  | normal => exact absurd rfl hx
  | exit id =>
    obtain ⟨k2, e1, e2⟩ := h2
    exact ⟨k2, e1, e2.trans (hk id rfl)⟩
  | ret => exact h2
  | panic ch => exact h2

/-- The same, with the answer still to be named. -/
def LandsA (P : Program) (genv : Nat → Option (List AV)) (B : Nat) (w₀ : World) (n : Nat) (b : Frame) (cs0 : List Frame) (k : List Item) (h : Heap) (m : Mem) (m0 : Machine) (ans : Ans) : Prop :=
  ∃ x s', ans = .code x s' ∧ Lands P genv B w₀ n b cs0 k h m m0 x s'

theorem Lands.thenA {h : Heap} {m0 : Machine} {k1 : List Item} {s1 : St} {ans : Ans} (L : Lands P genv B w₀ n b cs0 k1 h m m0 .normal s1)
    (H : ∀ a1 m1 w1 cs1, SR m1 s1 a1 n → WR P genv B w₀ s1.heap m1 w1 → KR m1 b.kind cs0 s1.rc cs1 → m.Le m1 → LandsA P genv B w₀ n b cs0 k s1.heap m1 (lone (b.atR a1 k1) cs1 w1) ans) :
    LandsA P genv B w₀ n b cs0 k h m m0 ans := by
  obtain ⟨a', m', w', cs', fr, h1, h2, h3, h4, h5, h6⟩ := L
  cases h2
  obtain ⟨x, s', e, L⟩ := H a' m' w' cs' h3 h4 h5 h6.le
  exact ⟨x, s', e, (Lands.ext h6 L).head h1⟩
theorem LandsA.head {h : Heap} {m0 m1 : Machine} {ans : Ans} (hs : Steps P m0 m1) (L : LandsA P genv B w₀ n b cs0 k h m m1 ans) : LandsA P genv B w₀ n b cs0 k h m m0 ans :=
  let ⟨x, s', e, L⟩ := L
  ⟨x, s', e, L.head hs⟩
theorem Lands.passA {h : Heap} {m0 : Machine} {k1 : List Item} {x : Exit} {s1 : St} (L : Lands P genv B w₀ n b cs0 k1 h m m0 x s1) (hx : x ≠ .normal)
    (hk : ∀ id, x = .exit id → exitTo id k1 = exitTo id k) : LandsA P genv B w₀ n b cs0 k h m m0 (.code x s1) := ⟨x, s1, rfl, L.pass hx hk⟩
theorem landsA_here {s : St} (S : SR m s a n) (W : WR P genv B w₀ s.heap m w) (K : KR m b.kind cs0 s.rc cs) {m0 : Machine} (hs : Steps P m0 (lone (b.atR a k) cs w)) :
    LandsA P genv B w₀ n b cs0 k s.heap m m0 (.code .normal s) := ⟨.normal, s, rfl, a, m, w, cs, _, hs, rfl, S, W, K, .refl _ _⟩

/-- Code that comes to its end or not, and what follows if it does (the steps between go on the frame alone). -/
theorem Lands.bindA {h : Heap} {m0 : Machine} {k1 : List Item} {x : Exit} {s1 : St} (L : Lands P genv B w₀ n b cs0 k1 h m m0 x s1) {ans : Ans}
    (hk : ∀ id, x = .exit id → exitTo id k1 = exitTo id k)
    (H : x = .normal → ∀ a1 m1 w1 cs1, SR m1 s1 a1 n → WR P genv B w₀ s1.heap m1 w1 → KR m1 b.kind cs0 s1.rc cs1 → m.Le m1 → LandsA P genv B w₀ n b cs0 k s1.heap m1 (lone (b.atR a1 k1) cs1 w1) ans)
    (hn : x ≠ .normal → ans = .code x s1) : LandsA P genv B w₀ n b cs0 k h m m0 ans := by
  by_cases hx : x = .normal
  · subst hx; exact L.thenA (H rfl)
  · rw [hn hx]; exact L.passA hx hk

theorem opsA_sound {rec : Task → R Ans} (hrec : SoundRec P genv B w₀ rec) (ops : Array Oper) : ∀ (j i : Nat), i + j = ops.size → ∀ {s : St} {m : Mem} {w : World} {a : Act} {cs : List Frame} {ans : Ans},
    FR m fn rd b → SR m s a n → WR P genv B w₀ s.heap m w → KR m b.kind cs0 s.rc cs →
    opsA rec rd ((ops.toList.drop i).map (compOper P genv n ops)) s = .ok ans →
      LandsA P genv B w₀ n b cs0 k s.heap m (lone (b.atR a (.inRegion ops (List.range' i j) :: k)) cs w) ans := by
  intro j
  induction j with
  | zero =>
    intro i hi s m w a cs ans F S W K e
    have : ops.toList.drop i = [] := List.drop_eq_nil_of_le (by simp; omega)
    rw [this] at e
    cases e
    exact landsA_here S W K (.one stepR_region_end)
  | succ j ih =>
    intro i hi s m w a cs ans F S W K e
    have hlt : i < ops.size := by omega
    have hd : ops.toList.drop i = ops[i] :: ops.toList.drop (i + 1) := by
      rw [List.drop_eq_getElem_cons (by simpa using hlt)]; simp
    rw [hd] at e
    obtain ⟨⟨y, s1⟩, hy, e⟩ := R.bind_ok e
    have L := stepOper_sound (k := k) (rest := List.range' (i + 1) j) (ops := ops) hrec (i := i) (o := ops[i]) (by simp [hlt]) F S W K hy
    rw [List.range'_succ]
    refine L.bindA (fun _ _ => rfl) (fun hx a1 m1 w1 cs1 S1 W1 K1 hle => ?_) (fun hx => ?_)
    · subst hx
      exact ih (i + 1) (by omega) (F.mono hle) S1 W1 K1 e
    · cases y with
      | normal => exact absurd rfl hx
      | _ => cases e; rfl

theorem loopObj {h : Heap} (W : WR P genv B w₀ h m w) {id lb : Nat} {r : ALoop} (hr : m.ρ id = some lb) (hg : loopOf h id = .ok r) :
    ∃ L : Loop, w.heap[lb]? = some (.loop L) ∧ LoopR P genv m r L ∧ h.get id = some (.loop r) := by
  obtain ⟨o, r', h1, h2, h3⟩ := W.obj id lb hr
  unfold loopOf at hg
  rw [h1] at hg
  split at hg
  · rename_i r0 e0
    cases hg
    cases e0
    cases h3 with
    | loop _ L hL => exact ⟨L, h2, hL, h1⟩
  · cases hg

theorem run_getLoop {lb : Nat} {L : Loop} (h : w.heap[lb]? = some (.loop L)) : (Instr.getLoop lb).run P w = .ok L w := by
  simp [Instr.getLoop, getObj, Sem.run, h]
theorem run_setObj {lb : Nat} {o : Obj} {L : Loop} (h : w.heap[lb]? = some (.loop L)) : (setObj lb o).run P w = .ok () { w with heap := w.heap.setIfInBounds lb o } := by
  simp [setObj, Sem.run, h]

theorem run_endLoop {lb : Nat} {L : Loop} (h : w.heap[lb]? = some (.loop L)) (hs : L.state ≠ .busy) :
    (Instr.endLoop lb).run P w = .ok L.pending { w with heap := w.heap.setIfInBounds lb (.loop { L with state := .exhausted }) } := by
  have : (L.state == LoopState.busy) = false := by
    cases hL : L.state <;> first | rfl | exact absurd hL hs
  simp [Instr.endLoop, Sem.run_bind, run_getLoop h, run_setObj h, hs]

theorem stepR_endRangeFunc {lb : Nat} {j : Option Code} {w' : World} (h : (Instr.endLoop lb).run P w = .ok j w') :
    step P (lone (b.atR a (.endRangeFunc lb :: k)) cs w) = .next (lone (b.atR a ((j.map Item.code).toList ++ k)) cs w') :=
  step_lone_go (by simp [stepG, stepG.exec, Frame.atR, Sem.runT_eq, h])

theorem WR.setLoop {h : Heap} (W : WR P genv B w₀ h m w) {id lb : Nat} {r : ALoop} {L : Loop} (hr : m.ρ id = some lb) (hL : w.heap[lb]? = some (.loop L)) (hg : h.get id = some (.loop r)) {r' : ALoop} {L' : Loop} (hR : LoopR P genv m r' L') :
    WR P genv B w₀ (h.set id (.loop r')) m { w with heap := w.heap.setIfInBounds lb (.loop L') } :=
  W.setObj hr hL (fun n e => by rw [hg] at e; cases e) (.loop _ _ hR) (fun c e f hh => by cases hh)

/-! ### A loop over a function -/
theorem rf_end {h : Heap} (W : WR P genv B w₀ h m w) {l lb : Nat} {r : ALoop} (hl : m.ρ l = some lb) (hr : loopOf h l = .ok r) (hne : r.state ≠ .busy) :
    ∃ w', (Instr.endLoop lb).run P w = .ok (r.pending.map jumpCode) w' ∧ WR P genv B w₀ (h.set l (.loop { r with state := .exhausted })) m w' := by
  obtain ⟨L, g1, g2, g3⟩ := loopObj W hl hr
  have hend := run_endLoop (P := P) g1 (by rw [g2.state]; exact hne)
  rw [g2.pending] at hend
  exact ⟨_, hend, W.setLoop hl g1 g3 ⟨rfl, rfl, g2.fn, g2.tmps, g2.params, g2.code, g2.defers⟩⟩

theorem rf_after {h : Heap} {m2 : Mem} {ds : List ADef} {mk : List Deferred} {l lb : Nat} {m0 : Machine} {x : CExit} {rc : RC} {h2 h' : Heap} (S : SR m s a n) (K : KR m b.kind cs0 s.rc cs) (E : Ext h m h2 m2)
    (hds : DL m2 ds mk) (hl : m2.ρ l = some lb)
    (Bk : Backs P genv B w₀ (b.atR ⟨a.tmps, mk⟩ (.inRangeFunc lb :: k)) cs h2 m2 m0 x h') {ans : Ans} {h0 : Heap} (e : afterRf ⟨s.tmps, ds, s.rc, h0⟩ l (.call x rc h') = .ok ans) :
    LandsA P genv B w₀ n b cs0 k h m m0 ans := by
  obtain ⟨m3, w3, fr, q1, q2, W3, E3⟩ := Bk
  have S3 : ∀ hp, SR m3 ⟨s.tmps, ds, s.rc, hp⟩ ⟨a.tmps, mk⟩ n := fun hp => ⟨S.tmps.mono (E.le.trans E3.le), S.size, hds.mono E3.le⟩
  have K3 := K.mono (E.le.trans E3.le)
  cases x with
  | panic ch =>
    obtain ⟨ch', hc, rfl⟩ := q2
    cases e
    exact ⟨_, _, rfl, ⟨a.tmps, mk⟩, m3, w3, cs, _, q1, ⟨_, ch', rfl, hc⟩, S3 _, W3, K3, E.trans E3⟩
  | ret v =>
    obtain ⟨v', _, rfl⟩ := q2
    simp only [afterRf] at e
    obtain ⟨r, hr, e⟩ := R.bind_ok e
    have hl3 := E3.le.ρ _ _ hl
    split at e
    · cases e
    · rename_i hne
      obtain ⟨w4, hend, W4⟩ := rf_end W3 hl3 hr (fun hh => hne hh)
      have hs := q1.trans (.one (stepR_endRangeFunc (b := b) (a := ⟨a.tmps, mk⟩) (k := k) (cs := cs) hend))
      have E4 : Ext h m (h'.set l (.loop { r with state := .exhausted })) m3 := (E.trans E3).trans (Ext.heap m3 rfl)
      unfold afterLoop at e
      split at e
      · rename_i hp0
        rw [hp0] at hs
        cases e
        exact ⟨.normal, _, rfl, ⟨a.tmps, mk⟩, m3, w4, cs, _, hs, rfl, S3 _, W4, K3, E4⟩
      · rename_i hp0
        rw [hp0] at hs
        cases e
        exact ⟨.ret, _, rfl, ⟨a.tmps, mk⟩, m3, w4, cs, _, hs, ⟨k, rfl⟩, S3 _, W4, K3, E4⟩
      · rename_i id hp0
        rw [hp0] at hs
        cases e
        exact ⟨.exit id, _, rfl, ⟨a.tmps, mk⟩, m3, w4, cs, _, hs, ⟨k, rfl, rfl⟩, S3 _, W4, K3, E4⟩

theorem rf_sound {rec : Task → R Ans} (hrec : SoundRec P genv B w₀ rec) {f : Operand} {params : Array Tmp} {assign body : Code} {kp : Nat → Option (List Nat)} {ans : Ans}
    (F : FR m fn rd b) (S : SR m s a n) (W : WR P genv B w₀ s.heap m w) (K : KR m b.kind cs0 s.rc cs) (e : codeA rec fn rd (comp P genv n kp (.rangeFunc f params assign body)) s = .ok ans) :
    LandsA P genv B w₀ n b cs0 k s.heap m (lone (b.atR a (.code (.rangeFunc f params assign body) :: k)) cs w) ans := by
  simp only [comp] at e
  split at e
  · rename_i hp
    replace e : rfA rec fn rd (opd genv f) params.toList (comp P genv n kp assign) (comp P genv n kp body) s = .ok ans := e
    obtain ⟨⟨d, ds, h1⟩, h0, e⟩ := R.bind_ok e
    -- the block for the deferred calls
    have key : ∃ db m1 w1 mark, (Instr.enterLoop b.fn a.tmps params assign body b.roundOf).run P w = .ok (w1.heap.size, mark) (w1.alloc (.loop { state := .ready, pending := none, fn := b.fn, tmps := a.tmps, params, assign, body, defers := db })) ∧
        WR P genv B w₀ h1 m1 w1 ∧ Ext s.heap m h1 m1 ∧ m1.ρ d = some db ∧ DL m1 ds (mark ++ a.defers) := by
      cases rd with
      | none =>
        have hb : b.roundOf = none := by
          have := F.rd
          cases hb : b.roundOf with
          | none => rfl
          | some l => rw [hb] at this; exact this.elim
        cases h0
        refine ⟨w.heap.size, m.box s.heap.next w.heap.size, w.alloc (.deferred (some [])), [{ target := .collected w.heap.size, args := #[] }], ?_, W.newBox (.deferred (some [])) _ (.deferred [] [] .nil), ext_newBox W _, ρ_box _ _ _, .cons (.collected _ _ (ρ_box _ _ _)) (S.defers.mono (ext_newBox W (.deferred (some []))).le)⟩
        simp [Instr.enterLoop, hb, Sem.run_bind, run_newObj]
      | some l =>
        obtain ⟨lb, hb, hl⟩ : ∃ lb, b.roundOf = some lb ∧ m.ρ l = some lb := by
          have := F.rd
          cases hb : b.roundOf with
          | none => rw [hb] at this; exact this.elim
          | some lb => rw [hb] at this; exact ⟨lb, rfl, this⟩
        obtain ⟨r, hr, h0⟩ := R.bind_ok h0
        cases h0
        obtain ⟨L, k1, k2, k3⟩ := loopObj W hl hr
        refine ⟨L.defers, m, w, [], ?_, W, .refl _ _, k2.defers, S.defers⟩
        simp [Instr.enterLoop, hb, Sem.run_bind, run_newObj, run_getLoop k1]
    obtain ⟨db, m1, w1, mark, hent, W1, E1, hd, hds⟩ := key
    have hLR : LoopR P genv (m1.box h1.next w1.heap.size) ⟨.ready, none, fn, s.tmps, params.toList, comp P genv n kp assign, comp P genv n kp body, d⟩
        { state := .ready, pending := none, fn := b.fn, tmps := a.tmps, params, assign, body, defers := db } := by
      have E2 := ext_newBox W1 (AO.loop ⟨.ready, none, fn, s.tmps, params.toList, comp P genv n kp assign, comp P genv n kp body, d⟩)
      refine ⟨rfl, rfl, F.fn, S.tmps.mono (E1.le.trans E2.le), rfl, ⟨n, S.size, ?_, ⟨kp, rfl⟩, ⟨kp, rfl⟩⟩, E2.le.ρ _ _ hd⟩
      intro p hpm
      have := List.all_eq_true.1 hp p hpm
      simpa [Nat.blt_eq] using this
    have W2 := W1.newBox (AO.loop ⟨.ready, none, fn, s.tmps, params.toList, comp P genv n kp assign, comp P genv n kp body, d⟩) (.loop { state := .ready, pending := none, fn := b.fn, tmps := a.tmps, params, assign, body, defers := db }) (.loop _ _ hLR)
    have E2 := E1.trans (ext_newBox W1 (AO.loop ⟨.ready, none, fn, s.tmps, params.toList, comp P genv n kp assign, comp P genv n kp body, d⟩))
    generalize hm2 : m1.box h1.next w1.heap.size = m2 at hLR W2 E2
    have hl2 : m2.ρ h1.next = some w1.heap.size := by rw [← hm2]; exact ρ_box _ _ _
    generalize hw2 : w1.alloc (.loop { state := .ready, pending := none, fn := b.fn, tmps := a.tmps, params, assign, body, defers := db }) = w2 at hent W2
    have hds2 : DL m2 ds (mark ++ a.defers) := hds.mono (by rw [← hm2]; exact (ext_newBox W1 (.deferred none)).le)
    generalize hlb : w1.heap.size = lb at hent hl2
    -- the call
    have hf := opd_sound W2 (S.tmps.mono E2.le) (a := a) f
    simp only [rfCall] at e
    generalize ev s.tmps (opd genv f) = y at hf e
    split at e
    · rename_i g first capt
      obtain ⟨ans1, hans1, e⟩ := R.bind_ok e
      obtain ⟨fs, gs, hev, hl, hl'⟩ := fn_inv hf
      have hargs : LR m2 (first ++ (AV.yield h1.next :: capt)) (fs ++ (Value.func (.yield lb) #[] #[] :: gs)) := hl.append (.cons (.yield _ _ hl2) hl')
      obtain ⟨x, rc', h', rfl, hcf, L⟩ := hrec _ _ hans1 (fs ++ (Value.func (.yield lb) #[] #[] :: gs)).toArray m2 w2 .normal (b.atR ⟨a.tmps, mark ++ a.defers⟩ (.inRangeFunc lb :: k) :: cs) _ (by simpa using hargs) W2 (.plain rfl)
      obtain ⟨⟨m3, w3, fr, q1, q2, W3, E3⟩, _⟩ := backs_of_leaves L
      have henter : step P (lone (b.atR a (.code (.rangeFunc f params assign body) :: k)) cs w) =
          .next (lone (Frame.enter P g (fs ++ (Value.func (.yield lb) #[] #[] :: gs)).toArray .normal) (b.atR ⟨a.tmps, mark ++ a.defers⟩ (.inRangeFunc lb :: k) :: cs) w2) := by
        refine step_lone_go ?_
        have hev' := congrFun (Frame.eval_atR b ⟨a.tmps, mark ++ a.defers⟩ (.inRangeFunc lb :: k)) f
        have hev'' : (Act.mk a.tmps (mark ++ a.defers)).eval f = .func (.func g) fs.toArray gs.toArray := by
          rw [← hev]; cases f <;> rfl
        rw [hev''] at hev'
        have hc : (Frame.eval (b.atR ⟨a.tmps, mark ++ a.defers⟩ (.inRangeFunc lb :: k))) (.const (.func (.yield lb) #[] #[])) = .func (.yield lb) #[] #[] := rfl
        simp only [Frame.atR] at hev' hc
        have hargeq : (#[] ++ fs.toArray ++ #[Value.func (.yield lb) #[] #[]] ++ gs.toArray : Array Value) = (fs ++ (Value.func (.yield lb) #[] #[] :: gs)).toArray := by apply Array.ext'; simp
        simp [stepG, stepG.exec, stepG.apply, Frame.atR, Sem.runT_eq, hent, resolve, hev', hc, Deferred.ofValue, invoke, Sem.run_bind, hcf]
        try simp_all
      exact (rf_after S K E2 hds2 hl2 ⟨m3, w3, fr, q1, q2, W3, E3⟩ e).head (.one henter)
    · cases e
  · cases e

/-! ### Code -/
theorem code_sound {rec : Task → R Ans} (hrec : SoundRec P genv B w₀ rec) (hD : DregSound P genv B w₀ rec) (n : Nat) (b : Frame) (cs0 : List Frame) (fn : FuncId) (rd : Option Nat) (kp : Nat → Option (List Nat)) (code : Code) :
    ∀ {it : Item} {s : St} {m : Mem} {w : World} {a : Act} {k : List Item} {cs : List Frame} {ans : Ans}, Starts code it → FR m fn rd b → SR m s a n → WR P genv B w₀ s.heap m w → KR m b.kind cs0 s.rc cs →
      codeA rec fn rd (comp P genv n kp code) s = .ok ans → LandsA P genv B w₀ n b cs0 k s.heap m (lone (b.atR a (it :: k)) cs w) ans := by
  have plain : ∀ {code : Code} {it : Item}, Starts code it → (∀ c, code ≠ .loop c) → it = .code code := fun h hn => by
    rcases h with h | ⟨c, h, _⟩
    · exact h
    · exact absurd h (hn c)
  induction code with
  | skip =>
    intro it s m w a k cs ans hit F S W K e
    cases plain hit (by simp)
    cases e
    exact landsA_here S W K (.one stepR_skip)
  | label l =>
    intro it s m w a k cs ans hit F S W K e
    cases plain hit (by simp)
    cases e
    exact landsA_here S W K (.one stepR_label)
  | goto l => intro it s m w a k cs ans hit F S W K e; cases e
  | refuse why => intro it s m w a k cs ans hit F S W K e; cases e
  | ret =>
    intro it s m w a k cs ans hit F S W K e
    cases plain hit (by simp)
    cases e
    exact ⟨_, s, rfl, a, m, w, cs, _, .refl _ _, ⟨k, rfl⟩, S, W, K, .refl _ _⟩
  | exit id =>
    intro it s m w a k cs ans hit F S W K e
    cases plain hit (by simp)
    cases e
    exact ⟨_, s, rfl, a, m, w, cs, _, .refl _ _, ⟨k, rfl, rfl⟩, S, W, K, .refl _ _⟩
  | scope body ih =>
    intro it s m w a k cs ans hit F S W K e
    cases plain hit (by simp)
    obtain ⟨x, s1, rfl, L⟩ := ih (k := .inScope body :: k) (.inl rfl) F S W K e
    refine LandsA.head (.one stepR_scope) (L.bindA (fun _ _ => rfl) (fun hx a1 m1 w1 cs1 S1 W1 K1 _ => ?_) (fun _ => rfl))
    subst hx
    exact landsA_here S1 W1 K1 (.one stepR_inScope)
  | seq x y ihx ihy =>
    intro it s m w a k cs ans hit F S W K e
    cases plain hit (by simp)
    obtain ⟨ans1, h1, e⟩ := R.bind_ok e
    obtain ⟨x', s1, rfl, L⟩ := ihx (k := .code y :: k) (.inl rfl) F S W K h1
    refine LandsA.head (.one stepR_seq) (L.bindA (fun _ _ => rfl) (fun hx a1 m1 w1 cs1 S1 W1 K1 hle => ?_) (fun hx => ?_))
    · subst hx
      exact ihy (.inl rfl) (F.mono hle) S1 W1 K1 e
    · cases x' with
      | normal => exact absurd rfl hx
      | _ => cases e; rfl
  | cond c x y ihx ihy =>
    intro it s m w a k cs ans hit F S W K e
    cases plain hit (by simp)
    replace e : condA (codeA rec fn rd (comp P genv n kp x)) (codeA rec fn rd (comp P genv n kp y)) s (ev s.tmps (opd genv c)) = .ok ans := e
    have hc := opd_sound W S.tmps c
    generalize ev s.tmps (opd genv c) = v at hc e
    unfold condA at e
    generalize hu : a.eval c = u at hc
    split at e
    · cases hc
      exact LandsA.head (.one (stepR_cond hu)) (ihx (.inl rfl) F S W K e)
    · cases hc
      exact LandsA.head (.one (stepR_cond hu)) (ihy (.inl rfl) F S W K e)
    · cases e
  | block id body ih =>
    intro it s m w a k cs ans hit F S W K e
    cases plain hit (by simp)
    obtain ⟨ans1, h1, e2⟩ := R.bind_ok e
    clear e
    obtain ⟨x', s1, rfl, L⟩ := ih (k := .inBlock id :: k) (.inl rfl) F S W K h1
    refine LandsA.head (.one stepR_block) ?_
    cases x' with
    | normal =>
      cases e2
      exact L.thenA fun a1 m1 w1 cs1 S1 W1 K1 hle => landsA_here S1 W1 K1 (.one stepR_inBlock)
    | exit i =>
      simp only [thenBlock] at e2
      split at e2
      · rename_i hi
        have hi : i = id := Nat.eq_of_beq_eq_true hi
        subst hi
        cases e2
        obtain ⟨a1, m1, w1, cs1, fr, h1, ⟨k1, rfl, hk⟩, h3, h4, h5, h6⟩ := L
        refine ⟨.normal, s1, rfl, a1, m1, w1, cs1, _, h1.trans (.one (stepR_exit (hk.trans ?_))), rfl, h3, h4, h5, h6⟩
        simp [exitTo]
      · rename_i hi
        cases e2
        refine L.passA (by simp) (fun j hj => ?_)
        cases hj
        have : ¬ id = i := fun hh => by subst hh; simp at hi
        simp [exitTo, this]
    | ret => cases e2; exact L.passA (by simp) (by simp)
    | panic ch => cases e2; exact L.passA (by simp) (by simp)
  | loop body ih =>
    intro it s m w a k cs ans hit F S W K e
    obtain ⟨ans1, h1, e⟩ := R.bind_ok e
    have hstart : Steps P (lone (b.atR a (it :: k)) cs w) (lone (b.atR a (.code body :: .inLoop body :: k)) cs w) := by
      rcases hit with rfl | ⟨c, hc, rfl⟩
      · exact .one stepR_loop
      · cases hc; exact .one stepR_inLoop
    obtain ⟨x', s1, rfl, L⟩ := ih (k := .inLoop body :: k) (.inl rfl) F S W K h1
    refine LandsA.head hstart (L.bindA (fun _ _ => rfl) (fun hx a1 m1 w1 cs1 S1 W1 K1 hle => ?_) (fun hx => ?_))
    · subst hx
      exact hrec _ _ e n (.loop body) (.inLoop body) m1 w1 b a1 k cs0 cs1 ⟨kp, rfl⟩ (.inr ⟨body, rfl, rfl⟩) (F.mono hle) S1 W1 K1
    · cases x' with
      | normal => exact absurd rfl hx
      | _ => cases e; rfl
  | rangeFunc f params assign body _ _ =>
    intro it s m w a k cs ans hit F S W K e
    cases plain hit (by simp)
    exact rf_sound hrec F S W K e
  | region id ops d =>
    intro it s m w a k cs ans hit F S W K e
    cases plain hit (by simp)
    cases d with
    | true => exact hD n ops id kp fn rd s m w b a k cs0 cs ans F S W K e
    | false =>
      obtain ⟨ans1, h1, e⟩ := R.bind_ok e
      have hr : List.range ops.size = List.range' 0 ops.size := List.range_eq_range'
      obtain ⟨x', s1, rfl, L⟩ := opsA_sound (k := k) hrec ops ops.size 0 (by omega) F S W K (by simpa using h1)
      refine LandsA.head (.one (by rw [stepR_region, hr])) ?_
      cases x' with
      | normal =>
        cases e
        obtain ⟨a1, m1, w1, cs1, fr, h1, h2, h3, h4, h5, h6⟩ := L
        exact ⟨.normal, _, rfl, a1, m1, w1, cs1, fr, h1, h2, ⟨h3.tmps.keep _, h3.size, h3.defers⟩, h4, h5, h6⟩
      | _ => cases e; exact ⟨_, _, rfl, L⟩

end
end Go.Am
