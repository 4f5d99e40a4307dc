/-
  REGIONS THAT DRAW THEIR ORDER: the plain laws of the checks.
-/
import Derived.Test.YtobfakjhhpbdmaaGreatDoorAmEval2
namespace Go.Am

/-! ### Equality -/
theorem allEq_eq {f : AV → AV → Bool} (hf : ∀ a b, f a b = true → a = b) : ∀ (a b : List AV), allEq f a b = true → a = b := by
  intro a
  induction a with
  | nil => intro b e; cases b <;> first | rfl | cases e
  | cons x r ih =>
    intro b e
    cases b with
    | nil => cases e
    | cons y q =>
      simp only [allEq] at e
      split at e
      · rename_i h1
        rw [hf _ _ h1, ih q e]
      · cases e
theorem tkEq_eq {a b : Tk} (e : tkEq a b = true) : a = b := by
  cases a <;> cases b <;> first | rfl | (simp only [tkEq, Bool.and_eq_true] at e; obtain ⟨h1, h2⟩ := e; rw [Nat.eq_of_beq_eq_true h1, Nat.eq_of_beq_eq_true h2]) | cases e
theorem kEq_eq {a b : IntKind} (e : kEq a b = true) : a = b := of_decide_eq_true e

theorem avEqStep_eq {f : AV → AV → Bool} (hf : ∀ a b, f a b = true → a = b) (a b : AV) (e : avEqStep f a b = true) : a = b := by
  have hl := allEq_eq hf
  unfold avEqStep at e
  split at e
  · rw [beqB_eq] at e; rw [eq_of_beq e]
  · simp only [Bool.and_eq_true] at e
    rw [kEq_eq e.1]
    have := e.2
    rw [ieq_eq] at this
    rw [of_decide_eq_true this]
  · rw [bytesEq_eq] at e; rw [eq_of_beq e]
  · simp only [Bool.and_eq_true] at e
    rw [Nat.eq_of_beq_eq_true e.1, Nat.eq_of_beq_eq_true e.2]
  · rfl
  · simp only [Bool.and_eq_true] at e
    rw [hl _ _ e.1, Nat.eq_of_beq_eq_true e.2]
  · simp only [Bool.and_eq_true] at e
    rw [tkEq_eq e.1, hl _ _ e.2]
  · rfl
  · simp only [Bool.and_eq_true] at e
    rw [Nat.eq_of_beq_eq_true e.1.1.1, Nat.eq_of_beq_eq_true e.1.1.2, Nat.eq_of_beq_eq_true e.1.2, Nat.eq_of_beq_eq_true e.2]
  · rw [Nat.eq_of_beq_eq_true e]
  · rfl
  · simp only [Bool.and_eq_true] at e
    rw [Nat.eq_of_beq_eq_true e.1.1, hl _ _ e.1.2, hl _ _ e.2]
  · rw [Nat.eq_of_beq_eq_true e]
  · rfl
  · simp only [Bool.and_eq_true] at e
    rw [Nat.eq_of_beq_eq_true e.1, hf _ _ e.2]
  · rfl
  · rw [hl _ _ e]
  · rw [hl _ _ e]
  · cases e

theorem avEq_eq : ∀ (n : Nat) (a b : AV), avEq n a b = true → a = b := by
  intro n
  induction n with
  | zero => intro a b e; cases e
  | succ n ih => intro a b e; exact avEqStep_eq ih a b e

/-! ### What an operation looks at -/
variable {ts ts' : Tmps} {h h' : Heap}

def Agree (ts ts' : Tmps) (l : List Nat) : Prop := ∀ t ∈ l, tget ts t = tget ts' t
theorem Agree.left {a b : List Nat} (A : Agree ts ts' (a ++ b)) : Agree ts ts' a := fun t ht => A t (by simp [ht])
theorem Agree.right {a b : List Nat} (A : Agree ts ts' (a ++ b)) : Agree ts ts' b := fun t ht => A t (by simp [ht])

theorem ev_congr {x : Opd} (A : Agree ts ts' x.uses) : ev ts x = ev ts' x := by
  cases x with
  | t n => exact A n (by simp [Opd.uses])
  | c v => rfl
theorem evL_congr : ∀ {l : List Opd}, Agree ts ts' (usesL l) → evL ts l = evL ts' l := by
  intro l
  induction l with
  | nil => intro _; rfl
  | cons x r ih =>
    intro A
    show ev ts x :: evL ts r = ev ts' x :: evL ts' r
    rw [ev_congr A.left, ih A.right]
theorem evO_congr {x : Option Opd} (A : Agree ts ts' (usesO x)) : evO ts x = evO ts' x := by
  cases x with
  | none => rfl
  | some x => show some (ev ts x) = some (ev ts' x); rw [ev_congr A]
theorem fillA_congr : ∀ {l : List (Nat × Nat × Opd)} (z : List AV), Agree ts ts' (usesP l) → fillA z ts l = fillA z ts' l := by
  intro l
  induction l with
  | nil => intro z _; rfl
  | cons x r ih =>
    intro z A
    obtain ⟨off, size, x⟩ := x
    simp only [fillA]
    rw [ev_congr A.left]
    split
    · split
      · exact ih _ A.right
      · rfl
    · rfl
theorem elemsA_congr {size : Nat} : ∀ {l : List Opd}, Agree ts ts' (usesL l) → elemsA size ts l = elemsA size ts' l := by
  intro l
  induction l with
  | nil => intro _; rfl
  | cons x r ih =>
    intro A
    simp only [elemsA]
    rw [ev_congr A.left, ih A.right]

theorem opA_congr {o : AOp} (A : Agree ts ts' o.uses) : opA ts h o = opA ts' h o := by
  cases o with
  | mov x => simp only [opA]; rw [ev_congr A]
  | u1 u x => simp only [opA]; rw [ev_congr A]
  | u2 u x => simp only [opA]; rw [ev_congr A]
  | b2 b x y => simp only [opA]; rw [ev_congr A.left, ev_congr A.right]
  | call f l => simp only [opA]; rw [ev_congr A.left, evL_congr A.right]
  | o3 o =>
    cases o with
    | pick c a b => simp only [opA, opO3]; rw [ev_congr A.left, ev_congr A.right.left, ev_congr A.right.right]
    | alloc z => rfl
    | build z l => simp only [opA, opO3, oBuild]; rw [fillA_congr z A]
    | bslice n l => simp only [opA, opO3, oBslice]; rw [elemsA_congr A]
    | mkFn f a b => simp only [opA, opO3]; rw [evL_congr A.left, evL_congr A.right]
    | mkMap => rfl
    | slc s n x lo hi u => simp only [opA, opO3]; rw [ev_congr A.left, evO_congr A.right.left, evO_congr A.right.right.left, evO_congr A.right.right.right]
    | mapUpd kn m k v => simp only [opA, opO3]; rw [ev_congr A.left, ev_congr A.right.left, ev_congr A.right.right]
    | mx b l => simp only [opA, opO3]; rw [evL_congr A]
    | defer f l => simp only [opA, opO3]; rw [ev_congr A.left, evL_congr A.right]
    | recover => rfl
    | none w => rfl

theorem wantedA_congr {g : Option (Nat × Bool)} (A : Agree ts ts' (match g with | some (t, _) => [t] | none => [])) : wantedA ts g = wantedA ts' g := by
  cases g with
  | none => rfl
  | some p =>
    obtain ⟨t, w⟩ := p
    simp only [wantedA]
    rw [A t (by simp)]

theorem lookVal_congr {o : AOper} (A : Agree ts ts' o.uses) : lookVal ts h o = lookVal ts' h o := by
  unfold lookVal
  rw [wantedA_congr A.left, opA_congr (h := h) A.right]

/-! ### What an operation turns -/
/-- The value, and the heap as it was. -/
def Still (ts : Tmps) (o : AOp) : Prop := ∀ h nx v, opA ts h o = .ok nx → lookNext nx = .ok v → nx = .val v h
/-- The same at every heap. -/
def Blind (ts : Tmps) (o : AOp) : Prop := ∀ h h' nx, opA ts h o = .ok nx → ∃ v, nx = .val v h ∧ opA ts h' o = .ok (.val v h')

theorem vl_blind {x : R AV} : ∀ h h' nx, vl h x = .ok nx → ∃ v, nx = .val v h ∧ vl h' x = .ok (.val v h') := by
  intro h h' nx e
  obtain ⟨v, rfl, rfl⟩ := vl_ok e
  exact ⟨v, rfl, rfl⟩
theorem bind_blind {α : Type} {x : R α} {f : α → AV} : ∀ (h h' : Heap) nx, (x.bind fun a => R.ok (ONext.val (f a) h)) = .ok nx → ∃ v, nx = .val v h ∧ (x.bind fun a => R.ok (ONext.val (f a) h')) = .ok (.val v h') := by
  intro h h' nx e
  obtain ⟨a, rfl, e⟩ := R.bind_ok e
  cases e
  exact ⟨_, rfl, rfl⟩

theorem blind_of_soft {o : AOp} (hc : o.cls = .soft) : Blind ts o := by
  intro h h' nx e
  cases o with
  | mov x => cases e; exact ⟨_, rfl, rfl⟩
  | call f l => cases hc
  | u1 u x =>
    simp only [opA] at e ⊢
    generalize ev ts x = y at e ⊢
    cases u with
    | load n => cases hc
    | nilchk => cases y <;> first | (cases e; done) | (cases e; exact ⟨_, rfl, rfl⟩)
    | faddr off => exact vl_blind h h' nx e
    | len k =>
      cases k with
      | map => cases hc
      | str => cases y <;> first | (cases e; done) | (cases e; exact ⟨_, rfl, rfl⟩)
      | sl => cases y <;> first | (cases e; done) | (cases e; exact ⟨_, rfl, rfl⟩)
    | extract i =>
      cases y <;> try (cases e; done)
      simp only [opU1, oExtract] at e ⊢
      split at e
      · cases e; exact ⟨_, rfl, rfl⟩
      · cases e
    | fld off n =>
      cases y <;> try (cases e; done)
      exact vl_blind h h' nx e
  | u2 u x =>
    simp only [opA] at e ⊢
    generalize ev ts x = y at e ⊢
    cases u with
    | box => cases hc
    | range => cases hc
    | next => cases hc
    | panic => cases hc
    | un op => cases op <;> cases y <;> first | (cases e; done) | (cases e; exact ⟨_, rfl, rfl⟩)
    | cvInt k => cases y <;> first | (cases e; done) | (cases e; exact ⟨_, rfl, rfl⟩)
    | cvStr => cases y <;> first | (cases e; done) | (cases e; exact ⟨_, rfl, rfl⟩)
    | cvBytes => cases y <;> first | (cases e; done) | (cases e; exact ⟨_, rfl, rfl⟩)
    | cvText => cases y <;> first | (cases e; done) | (cases e; exact ⟨_, rfl, rfl⟩) | exact bind_blind h h' nx e
    | mkIf t => cases e; exact ⟨_, rfl, rfl⟩
    | tassert t z => cases y <;> first | (cases e; done) | (cases e; exact ⟨_, rfl, rfl⟩)
    | cap =>
      cases y <;> first | (cases e; done) | (cases e; exact ⟨_, rfl, rfl⟩) | skip
      rename_i tk xs
      cases tk <;> first | (cases e; done) | (cases e; exact ⟨_, rfl, rfl⟩)
  | b2 b x y =>
    simp only [opA] at e ⊢
    generalize ev ts x = u at e ⊢
    generalize ev ts y = v at e ⊢
    cases b with
    | bin op => exact vl_blind h h' nx e
    | eq neg k => exact bind_blind (f := fun b => .bool (match neg with | true => bnot b | false => b)) h h' nx e
    | store n => cases hc
    | iaddr n => exact vl_blind h h' nx e
    | iaddrArr len size =>
      cases v <;> try (cases e; done)
      simp only [opB2, oIaddrArr] at e ⊢
      split at e
      · exact vl_blind h h' nx e
      · cases e
    | idxStr =>
      cases u <;> try (cases e; done)
      cases v <;> try (cases e; done)
      simp only [opB2, oIdxStr] at e ⊢
      split at e
      · split at e
        · cases e; exact ⟨_, rfl, rfl⟩
        · cases e
      · cases e
    | idxArr len size n =>
      cases u <;> try (cases e; done)
      cases v <;> try (cases e; done)
      simp only [opB2, oIdxArr] at e ⊢
      split at e
      · exact vl_blind h h' nx e
      · cases e
    | lookup kn z ok => cases hc
    | mkSlice z => cases hc
    | append n => cases hc
  | o3 o =>
    cases o with
    | pick c a b =>
      simp only [opA, opO3] at e ⊢
      generalize ev ts c = y at e ⊢
      cases y <;> try (cases e; done)
      rename_i bb
      cases bb <;> (cases e; exact ⟨_, rfl, rfl⟩)
    | alloc z => cases hc
    | build z l => exact bind_blind h h' nx e
    | bslice n l => exact bind_blind h h' nx e
    | mkFn f a b => cases e; exact ⟨_, rfl, rfl⟩
    | mkMap => cases hc
    | slc s n x lo hi u => exact vl_blind h h' nx e
    | mapUpd kn m k v => cases hc
    | mx b l =>
      simp only [opA, opO3] at e ⊢
      generalize evL ts l = y at e ⊢
      cases y with
      | nil => cases e
      | cons a r => exact vl_blind h h' nx e
    | defer f l => cases hc
    | recover => cases hc
    | none w => cases hc

theorem still_of_look {o : AOp} (hc : o.cls = .look) : ∀ h nx, opA ts h o = .ok nx → ∃ v, nx = .val v h := by
  intro h nx e
  cases o with
  | u1 u x =>
    cases u with
    | load n => obtain ⟨v, _, rfl⟩ := vl_ok e; exact ⟨v, rfl⟩
    | len k =>
      obtain ⟨v, _, e⟩ := R.bind_ok e
      cases e
      exact ⟨_, rfl⟩
    | _ => cases hc
  | b2 b x y =>
    cases b with
    | lookup kn z ok =>
      obtain ⟨_, _, e⟩ := R.bind_ok e
      obtain ⟨_, _, e⟩ := R.bind_ok e
      obtain ⟨r, _, e⟩ := R.bind_ok e
      cases r with
      | none => cases e; exact ⟨_, rfl⟩
      | some p => obtain ⟨i, v⟩ := p; cases e; exact ⟨_, rfl⟩
    | _ => cases hc
  | u2 u x => cases u <;> cases hc
  | o3 o => cases o <;> cases hc
  | _ => cases hc

def PlainNext : ONext → Prop
  | .recover => False
  | .defer _ => False
  | _ => True
theorem PlainNext.out {nx : ONext} (hh : PlainNext nx) : nx ≠ .recover ∧ ∀ d, nx ≠ .defer d := by
  cases nx <;> first | exact hh.elim | exact ⟨by simp, by simp⟩

theorem hard_next {o : AOp} (hc : o.cls = .hard) {nx : ONext} (e : opA ts h o = .ok nx) : nx ≠ .recover ∧ ∀ d, nx ≠ .defer d := by
  apply PlainNext.out
  cases o with
  | mov x => cases hc
  | call f l =>
    simp only [opA] at e
    generalize ev ts f = y at e
    cases y <;> first | (cases e; done) | (cases e; trivial)
  | u1 u x => cases u <;> try (cases hc; done)
              rename_i k
              cases k <;> cases hc
  | u2 u x =>
    simp only [opA] at e
    generalize ev ts x = y at e
    cases u <;> try (cases hc; done)
    · simp only [opU2, oBox] at e
      split at e
      · cases e; trivial
      · cases e
    · cases y <;> first | (cases e; done) | (cases e; trivial)
    · simp only [opU2, oNext] at e
      split at e
      · split at e
        · unfold oNextAt at e
          split at e
          · split at e
            · cases e; trivial
            · cases e
          · cases e; trivial
        · cases e
      · cases e
    · cases y <;> first | (cases e; done) | (cases e; trivial)
  | b2 b x y =>
    cases b <;> try (cases hc; done)
    · obtain ⟨_, _, e⟩ := R.bind_ok e
      cases e; trivial
    · simp only [opA, opB2, oMkSlice] at e
      split at e
      · split at e
        · cases e; trivial
        · cases e
      · cases e
    · obtain ⟨⟨_, _⟩, _, e⟩ := R.bind_ok e
      cases e; trivial
  | o3 o =>
    cases o <;> try (cases hc; done)
    · cases e; trivial
    · simp only [opA, opO3, oMapUpd] at e
      split at e
      · split at e
        · obtain ⟨_, _, e⟩ := R.bind_ok e
          obtain ⟨r, _, e⟩ := R.bind_ok e
          cases r with
          | none => cases e; trivial
          | some p => obtain ⟨i, v⟩ := p; cases e; trivial
        · cases e
      · cases e

/-! ### One operation of such a region -/
variable {rec : Task → R Ans} {rd : Option Nat} {o : AOper} {d : List ADef} {rc : RC}

theorem cls_op {c : DCl} (hc : o.cls = c) (hb : c ≠ .bad) : o.op.cls = c := by
  unfold AOper.cls at hc
  split at hc
  · exact absurd hc.symm hb
  · rename_i h1 h2
    exact hc

theorem lookVal_blind (hc : o.cls = .soft) {v : AV} (e : lookVal ts h o = .ok v) : lookVal ts h' o = .ok v := by
  unfold lookVal at e ⊢
  obtain ⟨w, hw, e⟩ := R.bind_ok e
  rw [hw]
  cases w with
  | false => exact e
  | true =>
    obtain ⟨nx, hn, e⟩ := R.bind_ok e
    obtain ⟨u, rfl, h2⟩ := blind_of_soft (cls_op hc (by simp)) h h' nx hn
    cases e
    simp only [R.bind, h2, lookNext]

theorem stepOper_look (hc : o.cls = .soft ∨ o.cls = .look) {v : AV} (e : lookVal ts h o = .ok v) : stepOper rec rd o ⟨ts, d, rc, h⟩ = .ok (.normal, ⟨tput o.dst v ts, d, rc, h⟩) := by
  unfold lookVal at e
  unfold stepOper
  obtain ⟨w, hw, e⟩ := R.bind_ok e
  simp only [hw]
  cases w with
  | false => cases e; rfl
  | true =>
    obtain ⟨nx, hn, e⟩ := R.bind_ok e
    have : ∃ u, nx = .val u h := by
      rcases hc with hc | hc
      · obtain ⟨u, h1, _⟩ := blind_of_soft (cls_op hc (by simp)) h h nx hn
        exact ⟨u, h1⟩
      · exact still_of_look (cls_op hc (by simp)) h nx hn
    obtain ⟨u, rfl⟩ := this
    cases e
    simp only [R.bind, hn]
    rfl

/-- A hard operation leaves all but the heap and its place, and looks at no more than its operands. -/
theorem stepOper_hard (hc : o.cls = .hard) {y : Exit} {s' : St} (e : stepOper rec rd o ⟨ts, d, rc, h⟩ = .ok (y, s')) :
    (∃ v h', y = .normal ∧ s' = ⟨tput o.dst v ts, d, rc, h'⟩ ∧ ∀ ts', Agree ts ts' o.uses → stepOper rec rd o ⟨ts', d, rc, h⟩ = .ok (.normal, ⟨tput o.dst v ts', d, rc, h'⟩)) ∨
    (∃ ch h', y = .panic ch ∧ s' = ⟨ts, d, rc, h'⟩ ∧ ∀ ts', Agree ts ts' o.uses → stepOper rec rd o ⟨ts', d, rc, h⟩ = .ok (.panic ch, ⟨ts', d, rc, h'⟩)) := by
  have hcop := cls_op hc (by simp)
  have key : ∀ ts', Agree ts ts' o.uses → stepOper rec rd o ⟨ts', d, rc, h⟩ = (wantedA ts o.guard).bind fun w => match w with
      | false => putV o ⟨ts', d, rc, h⟩ undefA h
      | true => (opA ts h o.op).bind (takeNext rec rd o ⟨ts', d, rc, h⟩) := fun ts' A => by
    unfold stepOper
    simp only
    rw [← wantedA_congr A.left, ← opA_congr (h := h) A.right]
    rfl
  unfold stepOper at e
  obtain ⟨w, hw, e⟩ := R.bind_ok e
  simp only at hw
  cases w with
  | false =>
    cases e
    exact .inl ⟨undefA, h, rfl, rfl, fun ts' A => by rw [key ts' A, hw]; rfl⟩
  | true =>
    obtain ⟨nx, hn, e⟩ := R.bind_ok e
    simp only at hn
    obtain ⟨hr1, hr2⟩ := hard_next hcop hn
    have key2 : ∀ ts', Agree ts ts' o.uses → stepOper rec rd o ⟨ts', d, rc, h⟩ = takeNext rec rd o ⟨ts', d, rc, h⟩ nx := fun ts' A => by
      rw [key ts' A, hw]
      simp only [R.bind, hn]
    cases nx with
    | val v h1 => cases e; exact .inl ⟨v, h1, rfl, rfl, fun ts' A => by rw [key2 ts' A]; rfl⟩
    | skip h1 => cases e; exact .inl ⟨undefA, h1, rfl, rfl, fun ts' A => by rw [key2 ts' A]; rfl⟩
    | defer d => exact absurd rfl (hr2 d)
    | recover => exact absurd rfl hr1
    | panic v => cases e; exact .inr ⟨_, h, rfl, rfl, fun ts' A => by rw [key2 ts' A]; rfl⟩
    | enter f args =>
      obtain ⟨ans, ha, e⟩ := R.bind_ok e
      simp only at ha
      cases ans with
      | code x s => cases e
      | call x rc' h1 =>
        cases x with
        | ret v => cases e; exact .inl ⟨v, h1, rfl, rfl, fun ts' A => by rw [key2 ts' A]; simp only [takeNext, ha, R.bind]; rfl⟩
        | panic ch => cases e; exact .inr ⟨ch, h1, rfl, rfl, fun ts' A => by rw [key2 ts' A]; simp only [takeNext, ha, R.bind]; rfl⟩
    | round l args =>
      obtain ⟨ans, ha, e⟩ := R.bind_ok e
      simp only at ha
      cases ans with
      | code x s => cases e
      | call x rc' h1 =>
        cases x with
        | ret v => cases e; exact .inl ⟨v, h1, rfl, rfl, fun ts' A => by rw [key2 ts' A]; simp only [takeNext, ha, R.bind]; rfl⟩
        | panic ch => cases e; exact .inr ⟨ch, h1, rfl, rfl, fun ts' A => by rw [key2 ts' A]; simp only [takeNext, ha, R.bind]; rfl⟩

end Go.Am
