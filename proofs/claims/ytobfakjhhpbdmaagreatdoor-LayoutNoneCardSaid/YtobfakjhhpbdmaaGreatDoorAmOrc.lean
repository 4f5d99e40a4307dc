/-
  THE ORACLE: what a function without parameters comes to, from one run on the empty heap.
-/
import Derived.Test.YtobfakjhhpbdmaaGreatDoorAmDreg
namespace Go.Am
open Go.RowKit

variable {P : Program} {genv : Nat → Option (List AV)} {B : Nat} {w₀ : World} {h : Heap} {m : Mem} {w : World}

/-- Values that name nothing of the heap. -/
def AV.ground : AV → Bool
  | .str _ | .int _ _ | .bool _ => true
  | _ => false
theorem VR.ground {m m' : Mem} {a : AV} {v : Value} (hg : a.ground = true) (r : VR m a v) : VR m' a v := by
  cases r <;> first | (cases hg; done) | constructor
theorem LR.ground {m m' : Mem} {as : List AV} {vs : List Value} (hg : as.all AV.ground = true) (r : LR m as vs) : LR m' as vs :=
  ⟨r.1, fun i c v hc hv => (r.2 i c v hc hv).ground (List.all_eq_true.1 hg c (List.mem_of_getElem? hc))⟩

def Mem.none (m : Mem) : Mem := { m with ρ := fun _ => Option.none, own := fun _ => Option.none }

theorem WR.empty (W : WR P genv B w₀ h m w) (hG : ∀ g cs, genv g = some cs → cs.all AV.ground = true) : WR P genv w.heap.size w Heap.empty m.none w := by
  refine ⟨.refl _ _, Nat.le_refl _, fun i j b e => ?_, fun i b e => ?_, fun i b e => ?_, W.imm, fun i b o e => ?_, fun b t sz e => ?_, fun g cs e => ?_⟩
  · cases e
  · cases e
  · cases e
  · cases e
  · cases e
  · obtain ⟨vs, h1, h2⟩ := W.glob g cs e
    exact ⟨vs, h1.ground (hG g cs e), h2⟩

/-- The world has grown, beyond all that was; the first cells of a new block never turn. -/
theorem WR.frame (W : WR P genv B w₀ h m w) {w' : World} (hb : Below w.heap.size w w') {b : Nat} (hbs : w.heap.size ≤ b) {cs : Array Value} {e : TypeId} {fr : Nat × Nat} (hc : w'.heap[b]? = some (.cells cs e fr)) (vs : List Value)
    (hv : ∀ (i : Nat) v, vs[i]? = some v → cs[i]? = some v) : WR P genv B w₀ h (m.still b vs) w' ∧ Ext h m h (m.still b vs) := by
  have himm : ∀ c o v, m.imm c o = some v → c < w.heap.size := fun c o v e' => World.block_lt_of_cell? w _ (W.imm c o v e')
  have hle : m.Le (m.still b vs) := ⟨fun _ _ e => e, fun c o v e' => by
    simp only [Mem.still]; rw [if_neg (fun hh => by subst hh; have := himm _ _ _ e'; omega)]; exact e', fun _ _ _ e => ⟨e, rfl⟩⟩
  refine ⟨⟨W.below.trans (hb.mono W.size), Nat.le_trans W.size hb.size, W.inj, fun i c hi => ?_, fun i c hi => ?_, fun c o v e' => ?_, fun i c o hi => ?_, fun c t sz e' => ?_, fun g cs' e' => ?_⟩, hle, Nat.le_refl _, fun _ _ => rfl⟩
  · obtain ⟨h1, h2, h3⟩ := W.lt i c hi
    exact ⟨h1, h2, Nat.lt_of_lt_of_le h3 hb.size⟩
  · obtain ⟨o', r', k1, k2, k3⟩ := W.obj i c hi
    exact ⟨o', r', k1, by rw [hb.block c (W.lt i c hi).2.2]; exact k2, k3.mono hle⟩
  · simp only [Mem.still] at e'
    split at e'
    · rename_i hcb
      subst hcb
      have hq := hv o v e'
      simp [World.cell?, hc, hq]
    · rw [← W.imm c o v e']
      exact cell?_of_heap (hb.block c (himm c o v e'))
  · have h3 := (W.lt i c hi).2.2
    simp only [Mem.still]
    rw [if_neg (by omega)]
    exact W.apart i c o hi
  · obtain ⟨h1, h2, h3, n, h4, h5, cs', e0, h6, h7⟩ := W.own c t sz e'
    have hlt := (W.own_lt e').1
    refine ⟨h1, h2, h3, n, h4, fun o ho => ?_, cs', e0, by rw [hb.block c hlt]; exact h6, h7⟩
    simp only [Mem.still]
    rw [if_neg (by omega)]
    exact h5 o ho
  · obtain ⟨vs', h1, h2⟩ := W.glob g cs' e'
    exact ⟨vs', h1.mono hle, fun i v hi => hle.imm _ _ _ (h2 i v hi)⟩

theorem orc_none : OrcOK P genv B w₀ (fun _ => none) := fun f v e => by cases e

/-- In every world. -/
def OrcAll (P : Program) (genv : Nat → Option (List AV)) (orc : Orc) : Prop := ∀ B w₀, OrcOK P genv B w₀ orc
/-- What one function answers, in every world. -/
def Answers (P : Program) (genv : Nat → Option (List AV)) (f : FuncId) (v : AV) : Prop :=
  ∀ (B : Nat) (w₀ : World) (h : Heap) (m : Mem) (w : World) (cs : List Frame), WR P genv B w₀ h m w →
    (callFunc f #[]).run P w = .ok (.enter f #[]) w ∧ Leaves P genv B w₀ f .normal cs h m (lone (Frame.enter P f #[] .normal) cs w) (.ret v) .plain h

theorem OrcAll.none : OrcAll P genv (fun _ => Option.none) := fun _ _ => orc_none
noncomputable def addOrc (f : FuncId) (v : AV) (orc : Orc) : Orc := fun g => match Nat.beq g f with
  | true => some v
  | false => orc g
theorem OrcAll.add {orc : Orc} (hO : OrcAll P genv orc) {f : FuncId} {v : AV} (hA : Answers P genv f v) : OrcAll P genv (addOrc f v orc) := by
  intro B w₀ g u e h m w cs W
  unfold addOrc at e
  split at e
  · rename_i hb
    cases e
    rw [Nat.eq_of_beq_eq_true hb]
    exact hA B w₀ h m w cs W
  · exact hO B w₀ g u e h m w cs W

/-- The world has grown, beyond all that was. -/
theorem WR.frame0 (W : WR P genv B w₀ h m w) {w' : World} (hb : Below w.heap.size w w') : WR P genv B w₀ h m w' ∧ Ext h m h m := by
  have himm : ∀ c o v, m.imm c o = some v → c < w.heap.size := fun c o v e' => World.block_lt_of_cell? w _ (W.imm c o v e')
  refine ⟨⟨W.below.trans (hb.mono W.size), Nat.le_trans W.size hb.size, W.inj, fun i c hi => ?_, fun i c hi => ?_, fun c o v e' => ?_, W.apart, fun c t sz e' => ?_, W.glob⟩, .refl m, Nat.le_refl _, fun _ _ => rfl⟩
  · obtain ⟨h1, h2, h3⟩ := W.lt i c hi
    exact ⟨h1, h2, Nat.lt_of_lt_of_le h3 hb.size⟩
  · obtain ⟨o', r', k1, k2, k3⟩ := W.obj i c hi
    exact ⟨o', r', k1, by rw [hb.block c (W.lt i c hi).2.2]; exact k2, k3⟩
  · rw [← W.imm c o v e']
    exact cell?_of_heap (hb.block c (himm c o v e'))
  · obtain ⟨h1, h2, h3, n, h4, h5, cs', e0, h6, h7⟩ := W.own c t sz e'
    have hlt := (W.own_lt e').1
    exact ⟨h1, h2, h3, n, h4, h5, cs', e0, by rw [hb.block c hlt]; exact h6, h7⟩

/-- From one run on the empty heap that comes to a ground value. -/
theorem orc_of_ground {fns : Go.Am.F} (hF : FnsOK P genv fns) {orc : Orc} (hO : OrcAll P genv orc) (hG : ∀ g cs, genv g = some cs → cs.all AV.ground = true) {n : Nat} {f : FuncId} {v : AV} {h' : Heap}
    (he : eval fns orc n (.call f [] .plain Heap.empty) = .ok (.call (.ret v) .plain h')) (hg : v.ground = true) : Answers P genv f v := by
  intro B w₀ h m w ks W
  obtain ⟨x, rc', h1, hx, hcf, m', w', cs', fr, q1, q2, q3, q4, q5, q6, q7, q8, q9⟩ := am_sound (B := w.heap.size) (w₀ := w) hF (hO _ _) n _ _ he #[] m.none w .normal ks ks (.nil _) (W.empty hG) (.plain rfl)
  cases hx
  refine ⟨hcf, ?_⟩
  obtain ⟨hmode, fn, v', hfn, hres, hv⟩ := q6
  cases q7 with
  | plain _ =>
    obtain ⟨W', E'⟩ := W.frame0 q8.below
    exact ⟨_, w', ks, fr, q1, q2, q3, q4, q5, ⟨hmode, fn, _, hfn, hres, hv.ground hg⟩, .plain rfl, W', E'⟩

/-- From one run on the empty heap that comes to a new array's slice of ground values. -/
theorem orc_of_run {fns : Go.Am.F} (hF : FnsOK P genv fns) {orc : Orc} (hO : OrcAll P genv orc) (hG : ∀ g cs, genv g = some cs → cs.all AV.ground = true) {n : Nat} {f : FuncId} {id len cap : Nat} {h' : Heap} {cs : List AV}
    (he : eval fns orc n (.call f [] .plain Heap.empty) = .ok (.call (.ret (.arr id 0 len cap)) .plain h')) (hc : h'.get id = some (.cells cs)) (hlen : len ≤ cs.length) (hg : (cs.take len).all AV.ground = true) :
    Answers P genv f (.sl .dead (cs.take len)) := by
  intro B w₀ h m w ks W
  obtain ⟨x, rc', h1, hx, hcf, m', w', cs', fr, q1, q2, q3, q4, q5, q6, q7, q8, q9⟩ := am_sound (B := w.heap.size) (w₀ := w) hF (hO _ _) n _ _ he #[] m.none w .normal ks ks (.nil _) (W.empty hG) (.plain rfl)
  cases hx
  refine ⟨hcf, ?_⟩
  obtain ⟨hmode, fn, v', hfn, hres, hv⟩ := q6
  cases q7 with
  | plain _ =>
    cases hv with
    | arr _ _ _ _ b hb hle =>
      obtain ⟨o, r, k1, k2, k3⟩ := q8.obj id b hb
      rw [hc] at k1
      cases k1
      cases k3 with
      | cells _ vs e hl =>
        have hbs := (q8.lt id b hb).2.1
        have hlt : (cs.take len).length = len := by simp; omega
        obtain ⟨W', E'⟩ := W.frame q8.below hbs k2 (vs.toList.take len) (fun i v hi => by
          rw [List.getElem?_take] at hi
          split at hi
          · simpa using hi
          · cases hi)
        have hflat : (cs.take len).flatMap AV.cells = cs.take len := by
          have : ∀ l : List AV, l.all AV.ground = true → l.flatMap AV.cells = l := by
            intro l
            induction l with
            | nil => intro _; rfl
            | cons a l ih =>
              intro h
              simp only [List.all_cons, Bool.and_eq_true] at h
              rw [List.flatMap_cons, ih h.2]
              cases a <;> first | (cases h.1; done) | rfl
          exact this _ hg
        have hLt : LR (m.still b (vs.toList.take len)) (cs.take len) (vs.toList.take len) := (hl.take len).ground hg
        refine ⟨_, w', ks, fr, q1, q2, q3, q4, q5, ⟨hmode, fn, _, hfn, hres, ?_⟩, .plain rfl, W', E'⟩
        have key := VR.sl (m := m.still b (vs.toList.take len)) .dead (cs.take len) (vs.toList.take len) b 0 cap 1 (fun x hx => by
            have := List.all_eq_true.1 hg x hx
            cases x <;> first | (cases this; done) | rfl) (by rw [hflat]; exact hLt.1) (by rw [hflat]; exact hLt.2)
          (fun i v hi => by simp only [Mem.still, if_true, Nat.zero_add]; exact hi)
          (by rw [hflat, List.all_eq_true]; intro x hx; have := List.all_eq_true.1 hg x hx; cases x <;> first | (cases this; done) | rfl)
          (by rw [hlt]; exact hle) (fun e => by cases e) (fun t e0 e => by cases e)
        rw [hlt] at key
        exact key

end Go.Am
