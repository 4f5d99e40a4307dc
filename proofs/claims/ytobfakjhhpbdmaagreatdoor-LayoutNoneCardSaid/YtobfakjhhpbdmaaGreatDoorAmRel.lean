/-
  HOW THE ABSTRACT MACHINE'S STATE STANDS TO THE MODEL'S: values, cells, the heap, the world.
-/
import Derived.Test.YtobfakjhhpbdmaaGreatDoorAmHeap
import Derived.AtR
import Derived.Below
import Derived.Laws.World
import Derived.Laws.Sem
namespace Go.Am
open Go.RowKit

/-- Where the abstract heap's things lie: blocks of objects; cells that never turn; blocks that are appended to (the token, an element's size), and their sizes. -/
structure Mem where
  ρ : Nat → Option Nat
  imm : Nat → Nat → Option Value
  own : Nat → Option (Nat × Nat)
  bsz : Nat → Nat

inductive VR (m : Mem) : AV → Value → Prop
  | bool (b : Bool) : VR m (.bool b) (.bool b)
  | int (k : IntKind) (n : Int) : VR m (.int k n) (.int k n)
  | str (s : List UInt8) : VR m (.str s) (.string ⟨s.toArray⟩)
  | ptr (id off b : Nat) : m.ρ id = some b → VR m (.ptr id off) (.pointer (some ⟨b, off, none⟩))
  | nilptr : VR m .nilptr (.pointer none)
  | ep (cs : List AV) (vs : List Value) (b base off : Nat) : cs.length = vs.length → (∀ (i : Nat) c v, cs[i]? = some c → vs[i]? = some v → VR m c v) →
      (∀ (i : Nat) v, vs[i]? = some v → m.imm b (base + i) = some v) → VR m (.ep cs off) (.pointer (some ⟨b, base + off, none⟩))
  | nilsl : VR m .nilsl (.slice none 0 0)
  | sl (tk : Tk) (xs : List AV) (vs : List Value) (b off cap sz : Nat) : (∀ x ∈ xs, x.cells.length = sz) → (xs.flatMap AV.cells).length = vs.length →
      (∀ (i : Nat) c v, (xs.flatMap AV.cells)[i]? = some c → vs[i]? = some v → VR m c v) → (∀ (i : Nat) v, vs[i]? = some v → m.imm b (off + i) = some v) →
      (xs.flatMap AV.cells).all AV.isCell = true → xs.length ≤ cap → (tk = .full → cap = xs.length) →
      (∀ t e, tk = .opn t e → m.own b = some (t, sz) ∧ 0 < sz ∧ off + xs.length * sz = e * sz ∧ off + cap * sz = m.bsz b) →
      VR m (.sl tk xs) (.slice (some ⟨b, off, none⟩) xs.length cap)
  | arr (id off len cap b : Nat) : m.ρ id = some b → len ≤ cap → VR m (.arr id off len cap) (.slice (some ⟨b, off, none⟩) len cap)
  | map (id b : Nat) : m.ρ id = some b → VR m (.map id) (.map (some b))
  | nilmap : VR m .nilmap (.map none)
  | fn (f : FuncId) (first capt : List AV) (fs cs : List Value) : first.length = fs.length → (∀ (i : Nat) c v, first[i]? = some c → fs[i]? = some v → VR m c v) →
      capt.length = cs.length → (∀ (i : Nat) c v, capt[i]? = some c → cs[i]? = some v → VR m c v) → VR m (.fn f first capt) (.func (.func f) fs.toArray cs.toArray)
  | yield (l b : Nat) : m.ρ l = some b → VR m (.yield l) (.func (.yield b) #[] #[])
  | nilfn : VR m .nilfn .nilFunc
  | iface (t : TypeId) (v : AV) (u : Value) : VR m v u → VR m (.iface t v) (.iface t u)
  | nilif : VR m .nilif .nilIface
  | agg (cs : List AV) (vs : List Value) : cs.length = vs.length → (∀ (i : Nat) c v, cs[i]? = some c → vs[i]? = some v → VR m c v) → VR m (.agg cs) (.agg vs.toArray)
  | tup (cs : List AV) (vs : List Value) : cs.length = vs.length → (∀ (i : Nat) c v, cs[i]? = some c → vs[i]? = some v → VR m c v) → VR m (.tup cs) (.tuple vs.toArray)
  | unk (v : Value) : VR m .unk v

/-- Lists of values, one by one. -/
def LR (m : Mem) (cs : List AV) (vs : List Value) : Prop :=
  cs.length = vs.length ∧ ∀ (i : Nat) c v, cs[i]? = some c → vs[i]? = some v → VR m c v

/-- More is known. -/
structure Mem.Le (m m' : Mem) : Prop where
  ρ : ∀ i b, m.ρ i = some b → m'.ρ i = some b
  imm : ∀ b o v, m.imm b o = some v → m'.imm b o = some v
  own : ∀ b t sz, m.own b = some (t, sz) → m'.own b = some (t, sz) ∧ m'.bsz b = m.bsz b

theorem Mem.Le.refl (m : Mem) : m.Le m := ⟨fun _ _ h => h, fun _ _ _ h => h, fun _ _ _ h => ⟨h, rfl⟩⟩
theorem Mem.Le.trans {a b c : Mem} (h : a.Le b) (k : b.Le c) : a.Le c :=
  ⟨fun i x e => k.ρ i x (h.ρ i x e), fun x o v e => k.imm x o v (h.imm x o v e), fun x t s e => ⟨(k.own x t s (h.own x t s e).1).1, ((k.own x t s (h.own x t s e).1).2).trans (h.own x t s e).2⟩⟩

theorem VR.mono {m m' : Mem} (h : m.Le m') {a : AV} {v : Value} (r : VR m a v) : VR m' a v := by
  induction r with
  | bool b => exact .bool b
  | int k n => exact .int k n
  | str s => exact .str s
  | ptr id off b e => exact .ptr id off b (h.ρ _ _ e)
  | nilptr => exact .nilptr
  | ep cs vs b base off hl _ hi ih => exact .ep cs vs b base off hl ih (fun i v e => h.imm _ _ _ (hi i v e))
  | nilsl => exact .nilsl
  | sl tk xs vs b off cap sz hs hl _ hi hq hc hf ho ih =>
    refine .sl tk xs vs b off cap sz hs hl ih (fun i v e => h.imm _ _ _ (hi i v e)) hq hc hf (fun t e he => ?_)
    obtain ⟨h1, h2, h3, h4⟩ := ho t e he
    exact ⟨(h.own _ _ _ h1).1, h2, h3, by rw [(h.own _ _ _ h1).2]; exact h4⟩
  | arr id off len cap b e l => exact .arr id off len cap b (h.ρ _ _ e) l
  | map id b e => exact .map id b (h.ρ _ _ e)
  | nilmap => exact .nilmap
  | fn f first capt fs cs h1 _ h3 _ ih1 ih2 => exact .fn f first capt fs cs h1 ih1 h3 ih2
  | yield l b e => exact .yield l b (h.ρ _ _ e)
  | nilfn => exact .nilfn
  | iface t v u _ ih => exact .iface t v u ih
  | nilif => exact .nilif
  | agg cs vs hl _ ih => exact .agg cs vs hl ih
  | tup cs vs hl _ ih => exact .tup cs vs hl ih
  | unk v => exact .unk v

theorem LR.mono {m m' : Mem} (h : m.Le m') {cs : List AV} {vs : List Value} (r : LR m cs vs) : LR m' cs vs :=
  ⟨r.1, fun i c v hc hv => (r.2 i c v hc hv).mono h⟩
theorem LR.nil (m : Mem) : LR m [] [] := ⟨rfl, fun i c v h => by simp at h⟩
theorem LR.cons {m : Mem} {c : AV} {v : Value} {cs : List AV} {vs : List Value} (h : VR m c v) (r : LR m cs vs) : LR m (c :: cs) (v :: vs) := by
  refine ⟨by simp [r.1], fun i a b ha hb => ?_⟩
  cases i with
  | zero => simp at ha hb; subst ha hb; exact h
  | succ i => exact r.2 i a b (by simpa using ha) (by simpa using hb)
theorem LR.head {m : Mem} {c : AV} {v : Value} {cs : List AV} {vs : List Value} (r : LR m (c :: cs) (v :: vs)) : VR m c v := r.2 0 c v rfl rfl
theorem LR.tail {m : Mem} {c : AV} {v : Value} {cs : List AV} {vs : List Value} (r : LR m (c :: cs) (v :: vs)) : LR m cs vs :=
  ⟨by simpa using r.1, fun i a b ha hb => r.2 (i + 1) a b (by simpa using ha) (by simpa using hb)⟩
theorem LR.cons_inv {m : Mem} {c : AV} {cs : List AV} {vs : List Value} (r : LR m (c :: cs) vs) : ∃ v vs', vs = v :: vs' ∧ VR m c v ∧ LR m cs vs' := by
  cases vs with
  | nil => simp [LR] at r
  | cons v vs => exact ⟨v, vs, rfl, r.head, r.tail⟩
theorem LR.nil_inv {m : Mem} {vs : List Value} (r : LR m [] vs) : vs = [] := by
  cases vs with
  | nil => rfl
  | cons v vs => simp [LR] at r
theorem LR.one {m : Mem} {c : AV} {v : Value} (h : VR m c v) : LR m [c] [v] := (LR.nil m).cons h
theorem LR.append {m : Mem} {cs ds : List AV} {vs us : List Value} (h : LR m cs vs) (k : LR m ds us) : LR m (cs ++ ds) (vs ++ us) := by
  refine ⟨by simp [h.1, k.1], fun i a b ha hb => ?_⟩
  have hl := h.1
  by_cases hi : i < cs.length
  · rw [List.getElem?_append_left hi] at ha
    rw [List.getElem?_append_left (by omega)] at hb
    exact h.2 i a b ha hb
  · rw [List.getElem?_append_right (by omega)] at ha
    rw [List.getElem?_append_right (by omega), ← hl] at hb
    exact k.2 _ a b ha hb
theorem LR.get {m : Mem} {cs : List AV} {vs : List Value} (r : LR m cs vs) {i : Nat} {c : AV} (h : cs[i]? = some c) : ∃ v, vs[i]? = some v ∧ VR m c v := by
  have hi : i < cs.length := (List.getElem?_eq_some_iff.1 h).1
  have hi' : i < vs.length := by rw [← r.1]; exact hi
  exact ⟨vs[i], List.getElem?_eq_getElem hi', r.2 i c _ h (List.getElem?_eq_getElem hi')⟩
theorem LR.drop {m : Mem} {cs : List AV} {vs : List Value} (r : LR m cs vs) (n : Nat) : LR m (cs.drop n) (vs.drop n) :=
  ⟨by simp [r.1], fun i c v hc hv => r.2 (n + i) c v (by simpa using hc) (by simpa using hv)⟩
theorem LR.take {m : Mem} {cs : List AV} {vs : List Value} (r : LR m cs vs) (n : Nat) : LR m (cs.take n) (vs.take n) := by
  refine ⟨by simp [r.1], fun i c v hc hv => ?_⟩
  rw [List.getElem?_take] at hc hv
  by_cases h : i < n
  · rw [if_pos h] at hc hv; exact r.2 i c v hc hv
  · rw [if_neg h] at hc; simp at hc
theorem VR.cells {m : Mem} {a : AV} {v : Value} (h : VR m a v) (hu : a ≠ .unk) : LR m a.cells v.cells.toList := by
  have single : a.cells = [a] → v.cells = #[v] → LR m a.cells v.cells.toList := fun e1 e2 => by rw [e1, e2]; exact LR.one h
  cases h with
  | unk => exact absurd rfl hu
  | agg cs vs hl hr => exact ⟨hl, hr⟩
  | _ => exact single rfl rfl

/-! ### Objects -/
inductive DR (m : Mem) : ADef → Deferred → Prop
  | call (f : FuncId) (args : List AV) (c d : List Value) : LR m args (d ++ c) → DR m (.call f args) { target := .fn (.func f) c.toArray, args := d.toArray }
  | collected (l b : Nat) : m.ρ l = some b → DR m (.collected l) { target := .collected b, args := #[] }

inductive DL (m : Mem) : List ADef → List Deferred → Prop
  | nil : DL m [] []
  | cons {a : ADef} {d : Deferred} {as : List ADef} {ds : List Deferred} : DR m a d → DL m as ds → DL m (a :: as) (d :: ds)

theorem DR.mono {m m' : Mem} (h : m.Le m') {a : ADef} {d : Deferred} (r : DR m a d) : DR m' a d := by
  cases r with
  | call f args c d h1 => exact .call f args c d (h1.mono h)
  | collected l b e => exact .collected l b (h.ρ _ _ e)
theorem DL.mono {m m' : Mem} (h : m.Le m') {a : List ADef} {d : List Deferred} (r : DL m a d) : DL m' a d := by
  induction r with
  | nil => exact .nil
  | cons r _ ih => exact .cons (r.mono h) ih
theorem DL.append {m : Mem} {a b : List ADef} {c d : List Deferred} (h : DL m a c) (k : DL m b d) : DL m (a ++ b) (c ++ d) := by
  induction h with
  | nil => exact k
  | cons r _ ih => exact .cons r ih

/-- Temporaries. -/
def TR (m : Mem) (ts : Tmps) (a : Array Value) : Prop := ∀ t, VR m (tget ts t) (a.getD t undef)
theorem TR.mono {m m' : Mem} (h : m.Le m') {ts : Tmps} {a : Array Value} (r : TR m ts a) : TR m' ts a := fun t => (r t).mono h
theorem TR.nil (m : Mem) (a : Array Value) : TR m [] a := fun _ => .unk _
theorem TR.keep {m : Mem} {ts : Tmps} {a : Array Value} (r : TR m ts a) (k : Option (List Nat)) : TR m (tkeep k ts) a := fun t => by
  rcases tget_tkeep ts k t with e | e <;> rw [e]
  · exact r t
  · exact .unk _
theorem TR.put {m : Mem} {ts : Tmps} {a : Array Value} (r : TR m ts a) (d : Option Nat) {x : AV} {v : Value} (hd : ∀ t, d = some t → t < a.size) (h : VR m x v) :
    TR m (tput d x ts) (match d with | some t => a.setIfInBounds t v | none => a) := fun t => by
  cases d with
  | none => exact r t
  | some d =>
    have hlt := hd d rfl
    show VR m (tget ((d, x) :: ts) t) _
    rw [tget_cons]
    by_cases e : d = t
    · subst e; rw [if_pos rfl]; simpa [hlt] using h
    · rw [if_neg e]
      have : (a.setIfInBounds d v).getD t undef = a.getD t undef := by simp [Array.getElem?_setIfInBounds_ne e]
      rw [this]; exact r t

/-- A jump out of a round. -/
def jumpCode : Jump → Code
  | .ret => .ret
  | .exit id => .exit id

/-- Code and its abstract form, for the temporaries of a frame of so many. -/
def CR (P : Program) (genv : Nat → Option (List AV)) (n : Nat) (c : Code) (a : AC) : Prop := ∃ kp, a = comp P genv n kp c

structure LoopR (P : Program) (genv : Nat → Option (List AV)) (m : Mem) (l : ALoop) (L : Loop) : Prop where
  state : L.state = l.state
  pending : L.pending = l.pending.map jumpCode
  fn : L.fn = l.fn
  tmps : TR m l.tmps L.tmps
  params : L.params.toList = l.params
  code : ∃ n, n ≤ L.tmps.size ∧ (∀ p ∈ l.params, p < n) ∧ CR P genv n L.assign l.assign ∧ CR P genv n L.body l.body
  defers : m.ρ l.defers = some L.defers

inductive EL (m : Mem) : List (AV × AV × Nat) → List MapEntry → Prop
  | nil : EL m [] []
  | cons {k v : AV} {b : Nat} {es : List (AV × AV × Nat)} {e : MapEntry} {r : List MapEntry} : VR m k e.key → VR m v e.val → e.born = b → EL m es r → EL m ((k, v, b) :: es) (e :: r)
theorem EL.mono {m m' : Mem} (h : m.Le m') {a : List (AV × AV × Nat)} {d : List MapEntry} (r : EL m a d) : EL m' a d := by
  induction r with
  | nil => exact .nil
  | cons h1 h2 h3 _ ih => exact .cons (h1.mono h) (h2.mono h) h3 ih

inductive OR (P : Program) (genv : Nat → Option (List AV)) (m : Mem) : AO → Obj → Prop
  | cells (cs : List AV) (vs : Array Value) (e : TypeId) : LR m cs vs.toList → OR P genv m (.cells cs) (.cells vs e (0, 0))
  | map (es : List (AV × AV × Nat)) (clock : Nat) (r : Array MapEntry) : EL m es r.toList → OR P genv m (.map es clock) (.map r clock)
  | siter (s : List UInt8) (pos : Nat) : OR P genv m (.siter s pos) (.stringIter ⟨s.toArray⟩ pos)
  | loop (l : ALoop) (L : Loop) : LoopR P genv m l L → OR P genv m (.loop l) (.loop L)
  | deferred (ds : List ADef) (rs : List Deferred) : DL m ds rs → OR P genv m (.deferred (some ds)) (.deferred (some rs))
  | taken : OR P genv m (.deferred none) (.deferred none)

theorem LoopR.mono {P : Program} {genv : Nat → Option (List AV)} {m m' : Mem} (h : m.Le m') {l : ALoop} {L : Loop} (r : LoopR P genv m l L) : LoopR P genv m' l L :=
  ⟨r.state, r.pending, r.fn, r.tmps.mono h, r.params, r.code, h.ρ _ _ r.defers⟩
theorem OR.mono {P : Program} {genv : Nat → Option (List AV)} {m m' : Mem} (h : m.Le m') {a : AO} {o : Obj} (r : OR P genv m a o) : OR P genv m' a o := by
  cases r with
  | cells cs vs e r => exact .cells cs vs e (r.mono h)
  | map es c r k => exact .map es c r (k.mono h)
  | siter s p => exact .siter s p
  | loop l L r => exact .loop l L (r.mono h)
  | deferred ds rs r => exact .deferred ds rs (r.mono h)
  | taken => exact .taken

/-- THE WORLD: what the abstract heap says of the model's, from block B on; below, all is as it was in w₀. -/
structure WR (P : Program) (genv : Nat → Option (List AV)) (B : Nat) (w₀ : World) (h : Heap) (m : Mem) (w : World) : Prop where
  below : Below B w₀ w
  size : B ≤ w.heap.size
  inj : ∀ i j b, m.ρ i = some b → m.ρ j = some b → i = j
  lt : ∀ i b, m.ρ i = some b → i < h.next ∧ B ≤ b ∧ b < w.heap.size
  obj : ∀ i b, m.ρ i = some b → ∃ o r, h.get i = some o ∧ w.heap[b]? = some r ∧ OR P genv m o r
  imm : ∀ b o v, m.imm b o = some v → w.cell? ⟨b, o, none⟩ = some v
  apart : ∀ i b o, m.ρ i = some b → m.imm b o = none
  own : ∀ b t sz, m.own b = some (t, sz) → B ≤ b ∧ m.ρ t = none ∧ (∀ i, m.ρ i ≠ some b) ∧ ∃ n, h.get t = some (.tok n) ∧ (∀ o, n * sz ≤ o → m.imm b o = none) ∧
    ∃ cs e, w.heap[b]? = some (.cells cs e (0, 0)) ∧ cs.size = m.bsz b
  glob : ∀ g cs, genv g = some cs → ∃ vs, LR m cs vs ∧ ∀ (i : Nat) v, vs[i]? = some v → m.imm g (0 + i) = some v

end Go.Am
