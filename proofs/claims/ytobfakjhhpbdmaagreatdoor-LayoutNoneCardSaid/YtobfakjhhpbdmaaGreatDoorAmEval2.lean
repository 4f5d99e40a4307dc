/-
  THE EVALUATOR AGAINST THE MACHINE: calls, unwinding, rounds; the whole.
-/
import Derived.Test.YtobfakjhhpbdmaaGreatDoorAmEval
import Derived.Defers
namespace Go.Am
open Go.RowKit

variable {P : Program} {genv : Nat → Option (List AV)} {B : Nat} {w₀ : World}

/-- The table of functions holds what the program's functions compile to. -/
def FnsOK (P : Program) (genv : Nat → Option (List AV)) (fns : F) : Prop :=
  ∀ f afn, fns f = some afn → ∃ fn kp, P.funcs[f]? = some fn ∧ compFn P genv kp fn = some afn ∧ ∀ (args : Array Value) (w : World), (callFunc f args).run P w = .ok (.enter f args) w

section
variable {cs0 cs : List Frame} {w : World} {m : Mem} {s : St} {h : Heap}

theorem loadVarA_sound (W : WR P genv B w₀ h m w) {t : TypeId} {n : Option Nat} (e : aggOf P t = some n) {x v : AV} {x' : Value} (hx : VR m x x') (hr : loadA h n x = .ok v) :
    ∃ v', ((do loadVar t (← asAddr x')) : Sem Value).run P w = .ok v' w ∧ VR m v v' := by
  cases hx with
  | ptr id off b hb =>
    simp only [loadA] at hr
    split at hr
    · rename_i cs hg
      obtain ⟨v', h1, h2⟩ := run_loadVar e (W.cellsAt hb hg) hr
      rw [Nat.zero_add] at h1
      exact ⟨v', by simp only [asAddr, Sem.run_bind, Sem.run_pure, Result.andThen_ok, h1], h2⟩
    · cases hr
  | ep cs vs b base off hl hc hi =>
    simp only [loadA] at hr
    obtain ⟨v', h1, h2⟩ := run_loadVar (m := m) (w := w) (b := b) (base := base) e ⟨vs, ⟨hl, hc⟩, fun i v hv => W.imm _ _ _ (hi i v hv)⟩ hr
    exact ⟨v', by simp only [asAddr, Sem.run_bind, Sem.run_pure, Result.andThen_ok, h1], h2⟩
  | _ => cases hr

def resSem (tmps : Array Value) : ResultVar → Sem Value
  | .tmp t => pure (tmps.getD t undef)
  | .cell a t => do loadVar t (← asAddr (tmps.getD a undef))

theorem resultsA_sound (W : WR P genv B w₀ h m w) {ts : Tmps} {tmps : Array Value} (T : TR m ts tmps) : ∀ (rs : List ResultVar) (ars : List ARes) (l : List AV), rs.mapM (compRes P) = some ars → resultsA h ts ars = .ok l →
    ∃ vs, (rs.mapM (resSem tmps)).run P w = .ok vs w ∧ LR m l vs := by
  intro rs
  induction rs with
  | nil =>
    intro ars l hc e
    cases hc
    cases e
    exact ⟨[], rfl, .nil m⟩
  | cons r rs ih =>
    intro ars l hc e
    simp only [List.mapM_cons, Option.bind_eq_bind, Option.bind_eq_some_iff] at hc
    obtain ⟨ar, h1, ars', h2, h3⟩ := hc
    cases h3
    cases r with
    | tmp t =>
      cases h1
      obtain ⟨l', e1, e⟩ := R.bind_ok e
      cases e
      obtain ⟨vs, k1, k2⟩ := ih _ _ h2 e1
      exact ⟨tmps.getD t undef :: vs, by simp only [List.mapM_cons, Sem.run_bind, resSem, Sem.run_pure, Result.andThen_ok, k1], k2.cons (T t)⟩
    | cell a t =>
      obtain ⟨n, hn, rfl⟩ := Option.map_eq_some_iff.1 h1
      obtain ⟨v, hv, e⟩ := R.bind_ok e
      obtain ⟨l', e1, e⟩ := R.bind_ok e
      cases e
      obtain ⟨vs, k1, k2⟩ := ih _ _ h2 e1
      obtain ⟨v', k3, k4⟩ := loadVarA_sound W hn (T a) hv
      refine ⟨v' :: vs, ?_, k2.cons k4⟩
      have : (resSem tmps (.cell a t)).run P w = .ok v' w := k3
      simp only [List.mapM_cons, Sem.run_bind, this, Sem.run_pure, Result.andThen_ok, k1]

theorem results_sound (W : WR P genv B w₀ h m w) {ts : Tmps} {tmps : Array Value} (T : TR m ts tmps) {fn : Func} {ars : List ARes} {l : List AV} (hc : fn.results.toList.mapM (compRes P) = some ars) (e : resultsA h ts ars = .ok l) :
    ∃ v, (results fn tmps).run P w = .ok v w ∧ VR m (oneOf l) v := by
  obtain ⟨vs, k1, k2⟩ := resultsA_sound W T _ _ _ hc e
  have hm : (fn.results.mapM (resSem tmps)).run P w = .ok vs.toArray w := by
    rw [Array.mapM_eq_mapM_toList, Sem.run_map, k1]; rfl
  have hr : (results fn tmps).run P w = .ok (if hs : vs.toArray.size = 1 then vs.toArray[0] else .tuple vs.toArray) w := by
    have : results fn tmps = (do let vs ← fn.results.mapM (resSem tmps); pure (if h : vs.size = 1 then vs[0] else .tuple vs)) := by
      unfold results
      congr 1
    rw [this, Sem.run_bind, hm, Result.andThen_ok, Sem.run_pure]
  refine ⟨_, hr, ?_⟩
  cases l with
  | nil => rw [k2.nil_inv]; exact .tup [] [] rfl (fun i c v hc => by simp at hc)
  | cons x r =>
    obtain ⟨v, vs', rfl, hx, hr⟩ := k2.cons_inv
    cases r with
    | nil => rw [hr.nil_inv]; exact hx
    | cons y r =>
      obtain ⟨u, us, rfl, hy, hr'⟩ := hr.cons_inv
      have hne : ¬ (v :: u :: us).toArray.size = 1 := by simp
      rw [dif_neg hne]
      exact .tup _ _ k2.1 k2.2

/-! ### Unwinding -/
theorem Leaves.head {f : FuncId} {kind : CallKind} {h : Heap} {m0 m1 : Machine} {x : CExit} {rc : RC} {h' : Heap} (hs : Steps P m0 m1) (L : Leaves P genv B w₀ f kind cs0 h m m1 x rc h') :
    Leaves P genv B w₀ f kind cs0 h m m0 x rc h' := by
  obtain ⟨m', w', cs', fr, h1, h2⟩ := L
  exact ⟨m', w', cs', fr, hs.trans h1, h2⟩
theorem Leaves.ext {f : FuncId} {kind : CallKind} {h h1 : Heap} {m1 : Mem} {m0 : Machine} {x : CExit} {rc : RC} {h' : Heap} (E : Ext h m h1 m1) (L : Leaves P genv B w₀ f kind cs0 h1 m1 m0 x rc h') :
    Leaves P genv B w₀ f kind cs0 h m m0 x rc h' := by
  obtain ⟨m', w', cs', fr, k1, k2, k3, k4, k5, k6, k7, k8, k9⟩ := L
  exact ⟨m', w', cs', fr, k1, k2, k3, k4, k5, k6, k7, k8, E.trans k9⟩

theorem ModeR.mono {m m' : Mem} (h : m.Le m') {mode : Option (List APanic)} {u : FrameMode} (r : ModeR m mode u) : ModeR m' mode u := by
  cases mode <;> cases u <;> first | exact r | exact ChR.mono h r
theorem ModeR.not_run {m : Mem} {mode : Option (List APanic)} {u : FrameMode} (r : ModeR m mode u) : u ≠ .run := by
  cases mode <;> cases u <;> first | exact r.elim | simp

theorem ChR.noGoexit {m : Mem} {a : List APanic} {d : List PanicEntry} (r : ChR m a d) : d.dropWhile (!·.goexit) = [] := by
  induction r with
  | nil => rfl
  | cons h1 h2 h3 _ ih => simp [h3, ih]

theorem unwind_sound {fns : F} (hF : FnsOK P genv fns) {rec : Task → R Ans} (hrec : SoundRec P genv B w₀ rec) {f : FuncId} {mode : Option (List APanic)} {ans : Ans} (e : unwindA fns rec f mode s = .ok ans) :
    TaskSound P genv B w₀ (.unwind f mode s) ans := by
  intro fr m w cs0 cs hfn hex M D T W K
  unfold unwindA at e
  obtain ⟨ts, ds, rc, hp⟩ := s
  simp only at e D T W K
  split at e
  · -- collected
    rename_i _ bl ds'
    obtain ⟨fn0, tmps0, todo0, defers0, mode0, kind0, ro0⟩ := fr
    simp only at D T K M hfn
    cases D with
    | @cons _ _ _ dl hd D' =>
      cases hd with
      | collected _ b hb =>
        unfold collectA at e
        split at e
        · rename_i l hg
          simp only at hg
          obtain ⟨o, r, k1, k2, k3⟩ := W.obj bl b hb
          rw [hg] at k1; cases k1
          cases k3 with
          | deferred _ rs hl =>
            have htake : (Instr.takeDeferred b).run P w = .ok rs { w with heap := w.heap.setIfInBounds b (.deferred none) } := by
              simp [Instr.takeDeferred, Sem.run_bind, getObj, setObj, Sem.run, k2, Result.andThen]
            have W' := W.setObj hb k2 (o := .deferred none) (r := .deferred none) (fun n hh => by rw [hg] at hh; cases hh) .taken (fun c e f hh => by cases hh)
            have hstep : step P (lone (Frame.mk fn0 tmps0 todo0 ({ target := .collected b, args := #[] } :: dl) mode0 kind0 ro0) cs w) = .next (lone (Frame.mk fn0 tmps0 todo0 (rs ++ dl) mode0 kind0 ro0) cs { w with heap := w.heap.setIfInBounds b (.deferred none) }) := by
              refine step_lone_go ?_
              cases mode0 with
              | run => exact absurd rfl M.not_run
              | _ => simp [stepG, unwind, Sem.runT_eq, htake]
            obtain ⟨x, rc', h', rfl, L⟩ := hrec _ _ e (Frame.mk fn0 tmps0 todo0 (rs ++ dl) mode0 kind0 ro0) m _ cs0 cs hfn hex M (hl.append D') T W' K
            exact ⟨x, rc', h', rfl, Leaves.ext (Ext.heap (h := hp) (h' := hp.set bl (.deferred none)) m rfl) (L.head (.one hstep))⟩
        · cases e
  · -- a call
    rename_i _ g args ds'
    obtain ⟨fn0, tmps0, todo0, defers0, mode0, kind0, ro0⟩ := fr
    simp only at D T K M hfn
    cases D with
    | @cons _ d _ dl hd D' =>
      cases hd with
      | call _ _ cp da hl =>
        obtain ⟨ans1, h1, e⟩ := R.bind_ok e
        -- the frame as the callee's caller
        have hcall : ∀ a' : Array Value, a'.toList = da ++ cp → (da.toArray ++ cp.toArray : Array Value) = a' := fun a' h => by apply Array.ext'; simp [h]
        have K0 : KR m .deferred (Frame.mk fn0 tmps0 todo0 dl mode0 kind0 ro0 :: cs) (modeRC mode) (Frame.mk fn0 tmps0 todo0 dl mode0 kind0 ro0 :: cs) := by
          cases mode with
          | none =>
            cases mode0 with
            | returning => exact .ret rfl rfl
            | _ => exact M.elim
          | some ch =>
            cases mode0 with
            | panicking ch' => exact KR.pan (c := Frame.mk fn0 tmps0 todo0 dl (.panicking ch') kind0 ro0) rfl M
            | _ => exact M.elim
        obtain ⟨x, rc', h', rfl, hcf, L⟩ := hrec _ _ h1 (da ++ cp).toArray m w .deferred _ _ (by simpa using hl) W K0
        have hinv : (invoke (.fn (.func g) cp.toArray) da.toArray).run P w = .ok (.enter g (da ++ cp).toArray) w := by
          simp only [invoke]
          rw [hcall (da ++ cp).toArray (by simp)]
          exact hcf
        have hstep := step_defer (P := P) (fr := Frame.mk fn0 tmps0 todo0 ({ target := .fn (.func g) cp.toArray, args := da.toArray } :: dl) mode0 kind0 ro0) (cs := cs) M.not_run rfl rfl hinv
        obtain ⟨m', w', cs', fr', q1, q2, q3, q4, ⟨fnq, q5⟩, q6, q7, q8, q9⟩ := L
        have T' := T.mono q9.le
        have D'' := D'.mono q9.le
        have K' := K.mono q9.le
        -- the mode of the caller, as the callee left it
        have ret : ∀ (ans : Ans) (u1 : FrameMode) (mode1 : Option (List APanic)), rec (.unwind f mode1 ⟨ts, ds', rc, h'⟩) = .ok ans → ModeR m' mode1 u1 →
            step P (lone fr' cs' w') = .next (lone (Frame.mk fn0 tmps0 todo0 dl u1 kind0 ro0) cs w') →
            ∃ x rc' h', ans = .call x rc' h' ∧ Leaves P genv B w₀ f kind0 cs0 hp m (lone (Frame.mk fn0 tmps0 todo0 ({ target := .fn (.func g) cp.toArray, args := da.toArray } :: dl) mode0 kind0 ro0) cs w) x rc' h' := by
          intro ans u1 mode1 e1 hm1 hst
          obtain ⟨x2, rc2, h2, rfl, L⟩ := hrec _ _ e1 (Frame.mk fn0 tmps0 todo0 dl u1 kind0 ro0) m' w' cs0 cs hfn hex hm1 D'' T' q8 K'
          exact ⟨x2, rc2, h2, rfl, (L.head ((Steps.head hstep q1).trans (.one hst))).ext q9⟩
        cases x with
        | ret v =>
          obtain ⟨r1, fn', v', r2, r3, _⟩ := q6
          have hgo : fr'.going P w' (.returned v') := ⟨r1, q4, fn', by rw [q2]; exact r2, r3⟩
          simp only [afterDefer] at e
          cases q7 with
          | plain hh => cases hh
          | ret _ hmode =>
            have hst := step_going_returned (cs := cs) (c := Frame.mk fn0 tmps0 todo0 dl mode0 kind0 ro0) q3 hgo
            simp only at hmode
            subst hmode
            cases mode with
            | some _ => exact M.elim
            | none => exact ret _ .returning none e trivial hst
          | @pan _ _ chain ch _ hch =>
            have hst := step_going_returned (cs := cs) (c := Frame.mk fn0 tmps0 todo0 dl (.panicking ch) kind0 ro0) q3 hgo
            cases mode with
            | none => cases e
            | some c0 =>
              cases hch with
              | nil => exact ret _ (.panicking []) (some []) e .nil hst
              | @cons p en ps es hv hrec' hgo' hch' =>
                obtain ⟨pv, pr⟩ := p
                obtain ⟨ev, er, eg⟩ := en
                simp only at hv hrec' hgo'
                subst hrec' hgo'
                cases er with
                | true =>
                  have hset : settle (.panicking ({ v := ev, recovered := true, goexit := false } :: es)) = .returning := by simp [settle, hch'.noGoexit]
                  simp only [hset] at hst
                  exact ret _ .returning none e trivial hst
                | false => exact ret _ (.panicking ({ v := ev, recovered := false, goexit := false } :: es)) (some ({ v := pv, recovered := false } :: ps)) e (ChR.cons hv rfl rfl hch') hst
        | panic ch1 =>
          obtain ⟨ch1', r1, r2⟩ := q6
          have hgo : fr'.going P w' (.panicked ch1') := ⟨r1, q4, fnq, by rw [q2]; exact q5⟩
          simp only [afterDefer] at e
          cases q7 with
          | plain hh => cases hh
          | ret _ hmode =>
            have hst := step_going_panicked (cs := cs) (c := Frame.mk fn0 tmps0 todo0 dl mode0 kind0 ro0) hgo
            simp only at hmode
            subst hmode
            cases mode with
            | some _ => exact M.elim
            | none => exact ret _ (.panicking ch1') (some ch1) e r2 hst
          | @pan _ _ chain ch _ hch =>
            have hst := step_going_panicked (cs := cs) (c := Frame.mk fn0 tmps0 todo0 dl (.panicking ch) kind0 ro0) hgo
            cases mode with
            | none => cases e
            | some c0 => exact ret _ (.panicking (ch1' ++ ch)) (some (ch1 ++ chain)) e (r2.append hch) hst
  · -- the end
    obtain ⟨fn0, tmps0, todo0, defers0, mode0, kind0, ro0⟩ := fr
    simp only at D T K M hfn
    cases D
    subst hfn
    unfold endA at e
    split at e
    · rename_i ch
      cases e
      cases mode0 with
      | panicking ch' => exact ⟨_, _, _, rfl, m, w, cs, _, .refl _ _, rfl, rfl, rfl, hex, ⟨ch', rfl, M⟩, K, W, .refl _ _⟩
      | _ => exact M.elim
    · split at e
      · cases e
      · rename_i afn hafn
        obtain ⟨l, hl, e⟩ := R.bind_ok e
        cases e
        obtain ⟨fn, kp, k1, k2, _⟩ := hF _ _ hafn
        have k3 : fn.results.toList.mapM (compRes P) = some afn.results := by
          unfold compFn at k2
          split at k2
          · rename_i hrs; cases k2; exact hrs
          · cases k2
        obtain ⟨v, hv1, hv2⟩ := results_sound W T k3 hl
        cases mode0 with
        | returning => exact ⟨_, _, _, rfl, m, w, cs, _, .refl _ _, rfl, rfl, rfl, hex, ⟨rfl, fn, v, k1, hv1, hv2⟩, K, W, .refl _ _⟩
        | _ => exact M.elim

/-! ### Calls -/
theorem argTmps_get : ∀ (args : List AV) (i t : Nat), tget (argTmps i args) t = if t < i then .unk else (args[t - i]?).getD .unk := by
  intro args
  induction args with
  | nil =>
    intro i t
    show AV.unk = _
    simp
  | cons x r ih =>
    intro i t
    show tget ((i, x) :: argTmps (i + 1) r) t = _
    rw [tget_cons, ih]
    by_cases h1 : i = t
    · subst h1; simp
    · rw [if_neg h1]
      by_cases h2 : t < i
      · rw [if_pos h2, if_pos (by omega)]
      · rw [if_neg h2, if_neg (by omega)]
        have : t - i = (t - (i + 1)) + 1 := by omega
        rw [this]; simp

theorem callB_sound {fns : F} (hF : FnsOK P genv fns) {rec : Task → R Ans} (hrec : SoundRec P genv B w₀ rec) {f : FuncId} {args : List AV} {rc : RC} {ans : Ans} (e : callB fns rec f args rc h = .ok ans) :
    TaskSound P genv B w₀ (.call f args rc h) ans := by
  intro args' m w kind cs0 cs ha W K
  unfold callB at e
  split at e
  · cases e
  · rename_i afn hafn
    obtain ⟨ans1, h1, e⟩ := R.bind_ok e
    obtain ⟨fn, kp, k1, k2, k3⟩ := hF _ _ hafn
    unfold compFn at k2
    split at k2
    · rename_i c rs hbody hrs
      cases k2
      let b : Frame := { fn := f, tmps := #[], todo := [], defers := [], mode := .run, kind }
      let a : Act := ⟨args' ++ Array.replicate (fn.ntmps - args'.size) undef, []⟩
      have hent : Frame.enter P f args' kind = b.atR a [.code c] := by
        simp [Frame.enter, Frame.atR, k1, hbody, b, a]
      have S : SR m ⟨argTmps 0 args, [], rc, h⟩ a fn.ntmps := by
        refine ⟨fun t => ?_, by simp [a]; omega, .nil⟩
        show VR m (tget (argTmps 0 args) t) _
        rw [argTmps_get, if_neg (Nat.not_lt_zero t), Nat.sub_zero]
        cases hx : args[t]? with
        | none => exact .unk _
        | some x =>
          obtain ⟨v, hv, hr⟩ := ha.get hx
          have hlt : t < args'.size := by simpa using (List.getElem?_eq_some_iff.1 hv).1
          have : a.tmps.getD t undef = v := by
            have h2 : args'[t]? = some v := by simpa using hv
            have h3 : (args' ++ Array.replicate (fn.ntmps - args'.size) undef)[t]? = some v := by rw [Array.getElem?_append_left hlt]; exact h2
            show (args' ++ Array.replicate (fn.ntmps - args'.size) undef).getD t undef = v
            rw [Array.getD_eq_getD_getElem?, h3]; rfl
          rw [this]
          exact hr
      obtain ⟨x, s1, rfl, a1, m1, w1, cs1, fr, q1, q2, q3, q4, q5, q6⟩ := hrec _ _ h1 fn.ntmps c (.code c) m w b a [] cs0 cs ⟨kp, rfl⟩ (.inl rfl) ⟨rfl, trivial⟩ S W K
      rw [← hent] at q1
      have fin : ∀ (fr : Frame) (mode : Option (List APanic)), fr.fn = f → fr.kind = kind → ModeR m1 mode fr.mode → DL m1 s1.defers fr.defers → TR m1 s1.tmps fr.tmps → Steps P (lone (Frame.enter P f args' kind) cs w) (lone fr cs1 w1) →
          rec (.unwind f mode s1) = .ok ans → ∃ x rc' h', ans = .call x rc' h' ∧ (callFunc f args').run P w = .ok (.enter f args') w ∧ Leaves P genv B w₀ f kind cs0 h m (lone (Frame.enter P f args' kind) cs w) x rc' h' := by
        intro fr mode g1 g2 g3 g4 g5 g6 e
        obtain ⟨x, rc', h', rfl, L⟩ := hrec _ _ e fr m1 w1 cs0 cs1 g1 ⟨fn, k1⟩ g3 g4 g5 q4 (by rw [g2]; exact q5)
        rw [g2] at L
        exact ⟨x, rc', h', rfl, k3 _ _, (L.head g6).ext q6⟩
      cases x with
      | normal =>
        cases q2
        exact fin { b.atR a1 [] with mode := .returning } none rfl rfl trivial q3.defers q3.tmps (q1.trans (.one (stepR_end rfl))) e
      | ret =>
        obtain ⟨k1, rfl⟩ := q2
        exact fin { b.atR a1 (.code .ret :: k1) with mode := .returning } none rfl rfl trivial q3.defers q3.tmps (q1.trans (.one (stepR_ret rfl))) e
      | panic ch =>
        obtain ⟨k1, ch', rfl, hch⟩ := q2
        exact fin { b.atR a1 k1 with mode := .panicking ch' } (some ch) rfl rfl hch q3.defers q3.tmps q1 e
      | exit id => cases e
    · cases k2

/-- What the oracle says holds of the machine. -/
def OrcOK (P : Program) (genv : Nat → Option (List AV)) (B : Nat) (w₀ : World) (orc : Orc) : Prop :=
  ∀ f v, orc f = some v → ∀ (h : Heap) (m : Mem) (w : World) (cs : List Frame), WR P genv B w₀ h m w →
    (callFunc f #[]).run P w = .ok (.enter f #[]) w ∧ Leaves P genv B w₀ f .normal cs h m (lone (Frame.enter P f #[] .normal) cs w) (.ret v) .plain h

theorem call_sound {fns : F} (hF : FnsOK P genv fns) {orc : Orc} (hO : OrcOK P genv B w₀ orc) {rec : Task → R Ans} (hrec : SoundRec P genv B w₀ rec) {f : FuncId} {args : List AV} {rc : RC} {ans : Ans} (e : callA fns orc rec f args rc h = .ok ans) :
    TaskSound P genv B w₀ (.call f args rc h) ans := by
  unfold callA at e
  split at e
  · rename_i v hv
    unfold orcCall at e
    split at e
    · cases e
      intro args' m w kind cs0 cs ha W K
      have : args' = #[] := Array.ext' ha.nil_inv
      subst this
      cases K with
      | plain hk =>
        subst hk
        obtain ⟨h1, h2⟩ := hO f v hv h m w cs0 W
        exact ⟨_, _, _, rfl, h1, h2⟩
    · cases e
  · exact callB_sound hF hrec e

/-! ### Rounds -/
theorem bindParams_sound : ∀ (ps : List Nat) (as : List AV) (ts ts' : Tmps) (vs : List Value) (tmps : Array Value) (n : Nat), bindParams ps as ts = some ts' → LR m as vs → TR m ts tmps → n ≤ tmps.size → (∀ p ∈ ps, p < n) →
    ps.length = vs.length ∧ TR m ts' ((ps.zip vs).foldl (fun tmps (t, a) => tmps.setIfInBounds t a) tmps) ∧ n ≤ ((ps.zip vs).foldl (fun (tmps : Array Value) (t, a) => tmps.setIfInBounds t a) tmps).size := by
  intro ps
  induction ps with
  | nil =>
    intro as ts ts' vs tmps n e ha T hn hp
    cases as with
    | cons a as => cases e
    | nil => cases e; rw [ha.nil_inv]; exact ⟨rfl, T, hn⟩
  | cons p ps ih =>
    intro as ts ts' vs tmps n e ha T hn hp
    cases as with
    | nil => cases e
    | cons a as =>
      obtain ⟨v, vs', rfl, h1, h2⟩ := ha.cons_inv
      have hlt := hp p (by simp)
      have T1 := T.put (some p) (x := a) (v := v) (fun t e => by cases e; omega) h1
      obtain ⟨q1, q2, q3⟩ := ih as ((p, a) :: ts) ts' vs' (tmps.setIfInBounds p v) n e h2 T1 (by simpa using hn) (fun q hq => hp q (by simp [hq]))
      exact ⟨by simp [q1], q2, q3⟩

theorem plain_inv {kind : CallKind} {rc : RC} (K : KR m kind cs0 rc cs) (hk : kind = .normal) : cs = cs0 ∧ rc = .plain := by
  cases K with
  | plain _ => exact ⟨rfl, rfl⟩
  | ret hh _ => rw [hk] at hh; cases hh
  | pan hh _ => rw [hk] at hh; cases hh

theorem endRound_sound (W : WR P genv B w₀ h m w) {l lb : Nat} (hl : m.ρ l = some lb) {j : Option Jump} {v : AV} {h' : Heap} (e : endRound h l j = .ok (v, h')) :
    ∃ v' w', (Instr.endRound lb (j.map jumpCode)).run P w = .ok v' w' ∧ VR m v v' ∧ WR P genv B w₀ h' m w' ∧ h'.next = h.next := by
  unfold endRound at e
  obtain ⟨r, hr, e⟩ := R.bind_ok e
  obtain ⟨L, g1, g2, g3⟩ := loopObj W hl hr
  cases j with
  | none =>
    cases e
    have W' := W.setLoop hl g1 g3 (r' := { r with state := .ready, pending := none }) (L' := { L with state := .ready, pending := none }) ⟨rfl, rfl, g2.fn, g2.tmps, g2.params, g2.code, g2.defers⟩
    exact ⟨.bool true, _, by simp [Instr.endRound, Sem.run_bind, run_getLoop g1, run_setObj g1], .bool true, W', rfl⟩
  | some j =>
    cases e
    have W' := W.setLoop hl g1 g3 (r' := { r with state := .done, pending := some j }) (L' := { L with state := .done, pending := some (jumpCode j) }) ⟨rfl, rfl, g2.fn, g2.tmps, g2.params, g2.code, g2.defers⟩
    exact ⟨.bool false, _, by simp [Instr.endRound, Sem.run_bind, run_getLoop g1, run_setObj g1], .bool false, W', rfl⟩

theorem dl_nil {ds : List Deferred} (h : DL m [] ds) : ds = [] := by cases h; rfl

theorem round_sound {fns : F} (hF : FnsOK P genv fns) {rec : Task → R Ans} (hrec : SoundRec P genv B w₀ rec) {l : Nat} {args : List AV} {ans : Ans} (e : roundA fns rec l args h = .ok ans) : TaskSound P genv B w₀ (.round l args h) ans := by
  intro lb args' m w c cs hl ha W
  unfold roundA at e
  obtain ⟨r, hr, e⟩ := R.bind_ok e
  obtain ⟨L, g1, g2, g3⟩ := loopObj W hl hr
  split at e
  · cases e
  · rename_i ts hts
    obtain ⟨ans1, h1, e⟩ := R.bind_ok e
    obtain ⟨n, hn, hp, ca, cb⟩ := g2.code
    obtain ⟨b1, b2, b3⟩ := bindParams_sound _ _ _ _ _ _ n hts ha g2.tmps hn hp
    let tm : Array Value := (L.params.zip args').foldl (fun tmps (t, a) => tmps.setIfInBounds t a) L.tmps
    have htm : tm = (r.params.zip args'.toList).foldl (fun tmps (t, a) => tmps.setIfInBounds t a) L.tmps := by
      show (L.params.zip args').foldl _ L.tmps = _
      rw [← Array.foldl_toList, Array.toList_zip, g2.params]
    have hsz : args'.size = L.params.size := by
      have := b1
      rw [← g2.params] at this
      simpa using this.symm
    have hy : (Instr.yield lb args').run P w = .ok (.round lb L.fn tm L.assign L.body) w := by
      simp [Instr.yield, Sem.run_bind, run_getLoop g1, hsz, tm]
    let b : Frame := { fn := L.fn, tmps := #[], todo := [], defers := [], mode := .run, kind := .normal, roundOf := some lb }
    have hfr : Frame.round lb L.fn tm L.assign L.body .normal = b.atR ⟨tm, []⟩ (.code L.assign :: [.beginRound, .code L.body]) := rfl
    have S : SR m ⟨ts, [], .plain, h⟩ ⟨tm, []⟩ n := ⟨by rw [htm]; exact b2, by rw [htm]; exact b3, .nil⟩
    obtain ⟨x, s1, rfl, a1, m1, w1, cs1, fr, q1, q2, q3, q4, q5, q6⟩ := hrec _ _ h1 n L.assign (.code L.assign) m w b ⟨tm, []⟩ [.beginRound, .code L.body] (c :: cs) (c :: cs) ca (.inl rfl) ⟨g2.fn, hl⟩ S W (.plain rfl)
    rw [← hfr] at q1
    cases x with
    | normal =>
      cases q2
      simp only [beginBody] at e
      obtain ⟨r', hr', e⟩ := R.bind_ok e
      obtain ⟨L', j1, j2, j3⟩ := loopObj q4 (q6.le.ρ _ _ hl) hr'
      split at e
      · rename_i hst
        obtain ⟨ans2, h2, e⟩ := R.bind_ok e
        have hbegin : (Instr.beginRound lb).run P w1 = .ok () { w1 with heap := w1.heap.setIfInBounds lb (.loop { L' with state := .busy }) } := by
          have : L'.state = .ready := j2.state.trans hst
          simp [Instr.beginRound, Sem.run_bind, run_getLoop j1, run_setObj j1, this]
        have W2 := q4.setLoop (q6.le.ρ _ _ hl) j1 j3 (r' := { r' with state := .busy }) (L' := { L' with state := .busy }) ⟨rfl, j2.pending, j2.fn, j2.tmps, j2.params, j2.code, j2.defers⟩
        obtain ⟨rfl, hrc⟩ := plain_inv q5 rfl
        obtain ⟨x, s2, rfl, a2, m2, w2, cs2, fr2, p1, p2, p3, p4, p5, p6⟩ := hrec _ _ h2 n L.body (.code L.body) m1 _ b a1 [] (c :: cs) (c :: cs) cb (.inl rfl) ⟨g2.fn, q6.le.ρ _ _ hl⟩ ⟨q3.tmps, q3.size, q3.defers⟩ W2 q5
        obtain ⟨rfl, hrc2⟩ := plain_inv p5 rfl
        have steps := (q1.trans (.one (stepR_beginRound (b := b) rfl hbegin))).trans p1
        have E2 : Ext h m s2.heap m2 := q6.trans (Ext.trans (Ext.heap (h := s1.heap) (h' := s1.heap.set l (.loop { r' with state := .busy })) m1 rfl) p6)
        have hl2 := p6.le.ρ _ _ (q6.le.ρ _ _ hl)
        have fin : ∀ (j : Option Jump) (ans : Ans), roundEnd s2.heap l j = .ok ans → (∀ v w3, (Instr.endRound lb (j.map jumpCode)).run P w2 = .ok v w3 → step P (lone fr2 (c :: cs) w2) = .next (lone (c.finish v) cs w3)) →
            ∃ x h', ans = .call x .plain h' ∧ Backs P genv B w₀ c cs h m (lone (Frame.round lb L.fn tm L.assign L.body .normal) (c :: cs) w) x h' := by
          intro j ans e hst
          obtain ⟨⟨v, h3⟩, e1, e⟩ := R.bind_ok e
          cases e
          obtain ⟨v', w3, r1, r2, W3⟩ := endRound_sound p4 hl2 e1
          exact ⟨_, h3, rfl, m2, w3, _, steps.trans (.one (hst v' w3 r1)), ⟨v', r2, rfl⟩, W3.1, E2.trans (.heap m2 W3.2)⟩
        cases x with
        | normal =>
          cases p2
          obtain ⟨x, h', rfl, Bk⟩ := fin none ans e (fun v w3 hr => stepR_round_end (b := b) rfl rfl hr)
          exact ⟨x, h', rfl, _, _, _, _, hy, Bk⟩
        | ret =>
          obtain ⟨k1, rfl⟩ := p2
          obtain ⟨x, h', rfl, Bk⟩ := fin (some .ret) ans e (fun v w3 hr => stepR_round_ret (b := b) rfl rfl hr)
          exact ⟨x, h', rfl, _, _, _, _, hy, Bk⟩
        | exit id =>
          obtain ⟨k1, rfl, hk⟩ := p2
          obtain ⟨x, h', rfl, Bk⟩ := fin (some (.exit id)) ans e (fun v w3 hr => stepR_round_exit (b := b) rfl rfl (by rw [hk]; rfl) hr)
          exact ⟨x, h', rfl, _, _, _, _, hy, Bk⟩
        | panic ch =>
          obtain ⟨k1, ch', rfl, hch⟩ := p2
          simp only [afterRound] at e
          unfold panicRound at e
          split at e
          · rename_i afn ds0 hafn hds
            cases e
            obtain ⟨fnr, _, hfnr, _⟩ := hF _ _ hafn
            refine ⟨_, _, rfl, _, _, _, _, hy, m2, w2, _, steps.trans (.one ?_), ⟨ch', hch, rfl⟩, p4, E2⟩
            exact step_leave_panicked ⟨rfl, dl_nil (hds ▸ p3.defers), fnr, by show P.funcs[L.fn]? = _; rw [g2.fn]; exact hfnr⟩
          · cases e
      · cases e
    | panic ch => cases e
    | ret => cases e
    | exit id => cases e

/-! ### The whole -/
theorem evalStep_sound {fns : F} (hF : FnsOK P genv fns) {orc : Orc} (hO : OrcOK P genv B w₀ orc) {rec : Task → R Ans} (hrec : SoundRec P genv B w₀ rec) (hD : DregSound P genv B w₀ rec) : SoundRec P genv B w₀ (evalStep fns orc rec) := by
  intro t ans e
  cases t with
  | code fn rd c s =>
    intro n code it m w b a k cs0 cs hc hit F S W K
    obtain ⟨kp, rfl⟩ := hc
    exact code_sound hrec hD n b cs0 fn rd kp code hit F S W K e
  | call f args rc h => exact call_sound hF hO hrec e
  | unwind f mode s => exact unwind_sound hF hrec e
  | round l args h => exact round_sound hF hrec e

theorem eval_sound {fns : F} (hF : FnsOK P genv fns) {orc : Orc} (hO : OrcOK P genv B w₀ orc) (hD : ∀ rec, SoundRec P genv B w₀ rec → DregSound P genv B w₀ rec) : ∀ n, SoundRec P genv B w₀ (eval fns orc n) := by
  intro n
  induction n with
  | zero => intro t ans e; cases e
  | succ n ih => exact evalStep_sound hF hO ih (hD _ ih)

end
end Go.Am
