/-
  EACH ABSTRACT OPERATION IS THE MODEL'S: new blocks, indices, slices of slices, appends.
-/
import Derived.Test.YtobfakjhhpbdmaaGreatDoorAmOps
namespace Go.Am
open Go.RowKit

variable {P : Program} {genv : Nat → Option (List AV)} {B : Nat} {w₀ : World} {h : Heap} {m : Mem} {w : World}

/-- How what is known grows: old objects stay where they are. -/
structure Ext (h : Heap) (m : Mem) (h' : Heap) (m' : Mem) : Prop where
  le : m.Le m'
  next : h.next ≤ h'.next
  old : ∀ i, i < h.next → m'.ρ i = m.ρ i
theorem Ext.refl (h : Heap) (m : Mem) : Ext h m h m := ⟨.refl m, Nat.le_refl _, fun _ _ => rfl⟩
theorem Ext.trans {a b c : Heap} {x y z : Mem} (p : Ext a x b y) (q : Ext b y c z) : Ext a x c z :=
  ⟨p.le.trans q.le, Nat.le_trans p.next q.next, fun i hi => (q.old i (Nat.lt_of_lt_of_le hi p.next)).trans (p.old i hi)⟩
theorem Ext.heap {h h' : Heap} (m : Mem) (e : h'.next = h.next) : Ext h m h' m := ⟨.refl m, by omega, fun _ _ => rfl⟩

/-! ### New blocks -/
def Mem.box (m : Mem) (id b : Nat) : Mem := { m with ρ := fun i => if i = id then some b else m.ρ i }
def Mem.still (m : Mem) (b : Nat) (vs : List Value) : Mem := { m with imm := fun c o => if c = b then vs[o]? else m.imm c o }
def Mem.owned (m : Mem) (b : Nat) (vs : List Value) (t sz n : Nat) : Mem :=
  { m with imm := fun c o => if c = b then vs[o]? else m.imm c o, own := fun c => if c = b then some (t, sz) else m.own c, bsz := fun c => if c = b then n else m.bsz c }

theorem WR.ρ_fresh (W : WR P genv B w₀ h m w) (i : Nat) (hi : h.next ≤ i) : m.ρ i = none := by
  cases e : m.ρ i with
  | none => rfl
  | some b => have := (W.lt i b e).1; omega
theorem WR.imm_fresh (W : WR P genv B w₀ h m w) (o : Nat) : m.imm w.heap.size o = none := by
  cases e : m.imm w.heap.size o with
  | none => rfl
  | some v => exact absurd (World.block_lt_of_cell? w _ (W.imm _ _ _ e)) (by simp)
theorem WR.own_lt (W : WR P genv B w₀ h m w) {b t sz : Nat} (e : m.own b = some (t, sz)) : b < w.heap.size ∧ t < h.next := by
  obtain ⟨_, _, _, n, h4, _, cs, et, h6, _⟩ := W.own b t sz e
  exact ⟨(Array.getElem?_eq_some_iff.1 h6).1, Heap.lt_of_get h4⟩
theorem WR.own_fresh (W : WR P genv B w₀ h m w) : m.own w.heap.size = none := by
  cases e : m.own w.heap.size with
  | none => rfl
  | some p => obtain ⟨t, sz⟩ := p; exact absurd (W.own_lt e).1 (by simp)

theorem le_box (W : WR P genv B w₀ h m w) (id b : Nat) (hid : m.ρ id = none) : m.Le (m.box id b) :=
  ⟨fun i c e => by simp only [Mem.box]; rw [if_neg (fun hh => by subst hh; rw [hid] at e; cases e)]; exact e, fun _ _ _ e => e, fun _ _ _ e => ⟨e, rfl⟩⟩
theorem le_still (W : WR P genv B w₀ h m w) (vs : List Value) : m.Le (m.still w.heap.size vs) :=
  ⟨fun _ _ e => e, fun c o v e => by simp only [Mem.still]; rw [if_neg (fun hh => by subst hh; rw [W.imm_fresh] at e; cases e)]; exact e, fun _ _ _ e => ⟨e, rfl⟩⟩
theorem le_owned (W : WR P genv B w₀ h m w) (vs : List Value) (t sz n : Nat) : m.Le (m.owned w.heap.size vs t sz n) :=
  ⟨fun _ _ e => e, fun c o v e => by simp only [Mem.owned]; rw [if_neg (fun hh => by subst hh; rw [W.imm_fresh] at e; cases e)]; exact e,
   fun c s z e => by
    have hc : c ≠ w.heap.size := fun hh => by subst hh; rw [W.own_fresh] at e; cases e
    simp only [Mem.owned]; rw [if_neg hc, if_neg hc]; exact ⟨e, rfl⟩⟩

theorem heap_alloc_lt (w : World) (o : Obj) (k : Nat) (hk : k < w.heap.size) : (w.alloc o).heap[k]? = w.heap[k]? := Below.heap_alloc w o k hk
theorem heap_alloc_new (w : World) (o : Obj) : (w.alloc o).heap[w.heap.size]? = some o := by
  show (w.heap.push o)[w.heap.size]? = some o
  simp

theorem WR.drew (W : WR P genv B w₀ h m w) : WR P genv B w₀ h m w.drew :=
  ⟨W.below.drew, W.size, W.inj, W.lt, W.obj, W.imm, W.apart, W.own, W.glob⟩

/-- A new object in a new block. -/
theorem WR.newBox (W : WR P genv B w₀ h m w) (o : AO) (r : Obj) (hr : OR P genv (m.box h.next w.heap.size) o r) : WR P genv B w₀ (h.push o) (m.box h.next w.heap.size) (w.alloc r) := by
  have hfresh := W.ρ_fresh h.next (Nat.le_refl _)
  have hle := le_box W h.next w.heap.size hfresh
  have hρ : ∀ i b, (m.box h.next w.heap.size).ρ i = some b → (i = h.next ∧ b = w.heap.size) ∨ (m.ρ i = some b ∧ i < h.next ∧ b < w.heap.size) := fun i b e => by
    simp only [Mem.box] at e
    split at e
    · cases e; exact .inl ⟨by assumption, rfl⟩
    · exact .inr ⟨e, (W.lt i b e).1, (W.lt i b e).2.2⟩
  refine ⟨W.below.alloc W.size r, by simp; have := W.size; omega, fun i j b hi hj => ?_, fun i b hi => ?_, fun i b hi => ?_, fun c o v e => ?_, fun i b o hi => ?_, fun c t sz e => ?_, fun g cs e => ?_⟩
  · rcases hρ i b hi with ⟨rfl, rfl⟩ | ⟨h1, h2, h3⟩ <;> rcases hρ j _ hj with ⟨rfl, h5⟩ | ⟨h4, h5, h6⟩
    · rfl
    · omega
    · omega
    · exact W.inj i j b h1 h4
  · rcases hρ i b hi with ⟨rfl, rfl⟩ | ⟨h1, h2, h3⟩
    · exact ⟨by simp, W.size, by simp⟩
    · exact ⟨by simp; omega, (W.lt i b h1).2.1, by simp; omega⟩
  · rcases hρ i b hi with ⟨rfl, rfl⟩ | ⟨h1, h2, h3⟩
    · exact ⟨o, r, Heap.get_push_new h o, heap_alloc_new w r, hr⟩
    · obtain ⟨o', r', k1, k2, k3⟩ := W.obj i b h1
      exact ⟨o', r', by rw [Heap.get_push_old h o i h2]; exact k1, by rw [heap_alloc_lt w r b h3]; exact k2, k3.mono hle⟩
  · have e' : m.imm c o = some v := e
    have hlt := World.block_lt_of_cell? w _ (W.imm _ _ _ e')
    rw [World.cell?_alloc_lt w r _ hlt]
    exact W.imm _ _ _ e'
  · rcases hρ i b hi with ⟨rfl, rfl⟩ | ⟨h1, h2, h3⟩
    · exact W.imm_fresh o
    · exact W.apart i b o h1
  · obtain ⟨h1, h2, h3, n, h4, h5, cs, et, h6, h7⟩ := W.own c t sz e
    have hlt := W.own_lt e
    refine ⟨h1, ?_, fun i hi => ?_, n, by rw [Heap.get_push_old h o t hlt.2]; exact h4, h5, cs, et, by rw [heap_alloc_lt w r c hlt.1]; exact h6, h7⟩
    · simp only [Mem.box]; rw [if_neg (by omega)]; exact h2
    · rcases hρ i c hi with ⟨_, rfl⟩ | ⟨k1, _, _⟩
      · omega
      · exact h3 i k1
  · obtain ⟨vs, h1, h2⟩ := W.glob g cs e
    exact ⟨vs, h1.mono hle, h2⟩
theorem ext_newBox (W : WR P genv B w₀ h m w) (o : AO) : Ext h m (h.push o) (m.box h.next w.heap.size) :=
  ⟨le_box W _ _ (W.ρ_fresh _ (Nat.le_refl _)), by simp, fun i hi => by simp only [Mem.box]; rw [if_neg (by omega)]⟩
theorem ρ_box (m : Mem) (id b : Nat) : (m.box id b).ρ id = some b := by simp [Mem.box]

/-- A new block whose first cells never turn. -/
theorem WR.newStill (W : WR P genv B w₀ h m w) (cells : Array Value) (e : TypeId) (fr : Nat × Nat) (vs : List Value) (hv : ∀ (i : Nat) v, vs[i]? = some v → cells[i]? = some v) :
    WR P genv B w₀ h (m.still w.heap.size vs) (w.alloc (.cells cells e fr)) := by
  have hle := le_still W vs
  refine ⟨W.below.alloc W.size _, by simp; have := W.size; omega, W.inj, fun i b hi => ?_, fun i b hi => ?_, fun c o v e' => ?_, fun i b o hi => ?_, fun c t sz e' => ?_, fun g cs e' => ?_⟩
  · obtain ⟨h1, h2, h3⟩ := W.lt i b hi
    exact ⟨h1, h2, by simp; omega⟩
  · obtain ⟨o', r', k1, k2, k3⟩ := W.obj i b hi
    exact ⟨o', r', k1, by rw [heap_alloc_lt w _ b (W.lt i b hi).2.2]; exact k2, k3.mono hle⟩
  · simp only [Mem.still] at e'
    split at e'
    · rename_i hc
      subst hc
      have := hv o v e'
      show (match (w.heap.push (.cells cells e fr))[w.heap.size]? with | some (.cells c _ _) => if (none : Option Nat).isSome then none else c[o]? | _ => none) = some v
      rw [Array.getElem?_push_size]; simpa using this
    · have hlt := World.block_lt_of_cell? w _ (W.imm _ _ _ e')
      rw [World.cell?_alloc_lt w _ _ hlt]
      exact W.imm _ _ _ e'
  · have := (W.lt i b hi).2.2
    simp only [Mem.still]; rw [if_neg (by omega)]
    exact W.apart i b o hi
  · obtain ⟨h1, h2, h3, n, h4, h5, cs, et, h6, h7⟩ := W.own c t sz e'
    have hlt := W.own_lt e'
    exact ⟨h1, h2, h3, n, h4, fun o ho => by simp only [Mem.still]; rw [if_neg (by omega)]; exact h5 o ho, cs, et, by rw [heap_alloc_lt w _ c hlt.1]; exact h6, h7⟩
  · obtain ⟨us, h1, h2⟩ := W.glob g cs e'
    exact ⟨us, h1.mono hle, fun i v hi => hle.imm _ _ _ (h2 i v hi)⟩
theorem ext_still (W : WR P genv B w₀ h m w) (vs : List Value) : Ext h m h (m.still w.heap.size vs) := ⟨le_still W vs, Nat.le_refl _, fun _ _ => rfl⟩

/-- A new block that is appended to: 'vs' lies there, n elements of size sz. -/
theorem WR.newOwned (W : WR P genv B w₀ h m w) (cells : Array Value) (e : TypeId) (vs : List Value) (n sz : Nat) (hn : vs.length = n * sz) (hv : ∀ (i : Nat) v, vs[i]? = some v → cells[i]? = some v) :
    WR P genv B w₀ (h.push (.tok n)) (m.owned w.heap.size vs h.next sz cells.size) (w.alloc (.cells cells e)) := by
  have hle := le_owned W vs h.next sz cells.size
  refine ⟨W.below.alloc W.size _, by simp; have := W.size; omega, W.inj, fun i b hi => ?_, fun i b hi => ?_, fun c o v e' => ?_, fun i b o hi => ?_, fun c t s e' => ?_, fun g cs e' => ?_⟩
  · obtain ⟨h1, h2, h3⟩ := W.lt i b hi
    exact ⟨by simp; omega, h2, by simp; omega⟩
  · obtain ⟨o', r', k1, k2, k3⟩ := W.obj i b hi
    exact ⟨o', r', by rw [Heap.get_push_old h _ i (W.lt i b hi).1]; exact k1, by rw [heap_alloc_lt w _ b (W.lt i b hi).2.2]; exact k2, k3.mono hle⟩
  · simp only [Mem.owned] at e'
    split at e'
    · rename_i hc
      subst hc
      have := hv o v e'
      show (match (w.heap.push (.cells cells e (0, 0)))[w.heap.size]? with | some (.cells c _ _) => if (none : Option Nat).isSome then none else c[o]? | _ => none) = some v
      rw [Array.getElem?_push_size]; simpa using this
    · have hlt := World.block_lt_of_cell? w _ (W.imm _ _ _ e')
      rw [World.cell?_alloc_lt w _ _ hlt]
      exact W.imm _ _ _ e'
  · have := (W.lt i b hi).2.2
    simp only [Mem.owned]; rw [if_neg (by omega)]
    exact W.apart i b o hi
  · simp only [Mem.owned] at e'
    split at e'
    · rename_i hc
      subst hc
      cases e'
      refine ⟨W.size, W.ρ_fresh _ (Nat.le_refl _), fun i hi => by have := (W.lt i _ hi).2.2; omega, n, Heap.get_push_new h _, fun o ho => ?_, cells, _, heap_alloc_new w _, by simp [Mem.owned]⟩
      simp only [Mem.owned, if_true]
      exact List.getElem?_eq_none (by omega)
    · rename_i hc
      obtain ⟨h1, h2, h3, k, h4, h5, cs, et, h6, h7⟩ := W.own c t s e'
      have hlt := W.own_lt e'
      exact ⟨h1, h2, h3, k, by rw [Heap.get_push_old h _ t hlt.2]; exact h4, fun o ho => by simp only [Mem.owned]; rw [if_neg hc]; exact h5 o ho, cs, et, by rw [heap_alloc_lt w _ c hlt.1]; exact h6,
        by simp only [Mem.owned]; rw [if_neg hc]; exact h7⟩
  · obtain ⟨us, h1, h2⟩ := W.glob g cs e'
    exact ⟨us, h1.mono hle, fun i v hi => hle.imm _ _ _ (h2 i v hi)⟩
theorem ext_owned (W : WR P genv B w₀ h m w) (vs : List Value) (n sz c : Nat) (o : AO) : Ext h m (h.push o) (m.owned w.heap.size vs h.next sz c) :=
  ⟨le_owned W vs _ _ _, by simp, fun _ _ => rfl⟩

/-- More elements behind those of a block that is appended to. -/
def Mem.more (m : Mem) (b base : Nat) (us : List Value) : Mem := { m with imm := fun c o => if c = b ∧ base ≤ o ∧ o < base + us.length then us[o - base]? else m.imm c o }

theorem WR.grow (W : WR P genv B w₀ h m w) {b t sz n k : Nat} (ho : m.own b = some (t, sz)) (hg : h.get t = some (.tok n)) {cs new : Array Value} {e' : TypeId} (hb : w.heap[b]? = some (.cells cs e' (0, 0)))
    (us : List Value) (hu : us.length = k * sz) (hf : n * sz + us.length ≤ cs.size) (hnew : new = (cs.toList.take (n * sz) ++ us ++ cs.toList.drop (n * sz + us.length)).toArray) :
    WR P genv B w₀ (h.set t (.tok (n + k))) (m.more b (n * sz) us) (w.setRow b new) ∧ Ext h m (h.set t (.tok (n + k))) (m.more b (n * sz) us) := by
  obtain ⟨h1, h2, h3, n', h4, h5, cs', e2, h6, h7⟩ := W.own b t sz ho
  rw [hg] at h4; cases h4
  rw [hb] at h6; cases h6
  have hlt := W.own_lt ho
  have hle : m.Le (m.more b (n * sz) us) := by
    refine ⟨fun _ _ e => e, fun c o v e => ?_, fun _ _ _ e => ⟨e, rfl⟩⟩
    simp only [Mem.more]
    rw [if_neg]
    · exact e
    · rintro ⟨rfl, hlo, _⟩
      rw [h5 o hlo] at e
      cases e
  have hnsz : new.size = cs.size := by rw [hnew]; simp; omega
  have hold : ∀ o, o < n * sz → new[o]? = cs[o]? := fun o ho => by
    rw [hnew]
    simp only [List.getElem?_toArray]
    rw [List.append_assoc, List.getElem?_append_left (by simp; omega), List.getElem?_take, if_pos ho]; simp
  refine ⟨⟨below_setRow W.below h1 _, by simp [World.setRow]; exact W.size, W.inj, fun i c hi => ?_, fun i c hi => ?_, fun c o v e => ?_, fun i c o hi => ?_, fun c t' s e => ?_, fun g gs e => ?_⟩, hle, by simp, fun _ _ => rfl⟩
  · obtain ⟨k1, k2, k3⟩ := W.lt i c hi
    exact ⟨by simpa using k1, k2, by simpa [World.setRow] using k3⟩
  · have hcb : c ≠ b := fun hh => h3 i (hh ▸ hi)
    have hit : i ≠ t := fun hh => by subst hh; have hi' : m.ρ i = some c := hi; rw [h2] at hi'; cases hi'
    obtain ⟨o', r', k1, k2, k3⟩ := W.obj i c hi
    exact ⟨o', r', by rw [Heap.get_set _ _ _ _ hlt.2, if_neg hit]; exact k1, by rw [heap_setRow w b cs new e' (0, 0) hb, if_neg hcb]; exact k2, k3.mono hle⟩
  · simp only [Mem.more] at e
    split at e
    · rename_i hc
      obtain ⟨rfl, hlo, hhi⟩ := hc
      have hnew' : new[o]? = some v := by
        rw [hnew]
        simp only [List.getElem?_toArray]
        rw [List.append_assoc, List.getElem?_append_right (by simp; omega), List.getElem?_append_left (by simp; omega)]
        have : min (n * sz) cs.size = n * sz := by omega
        simpa [this] using e
      simp [World.cell?, heap_setRow w c cs new e' (0, 0) hb]; simpa using hnew'
    · rename_i hc
      by_cases hcb : c = b
      · subst hcb
        have hon : o < n * sz := by
          rcases Nat.lt_or_ge o (n * sz) with hh | hh
          · exact hh
          · rw [h5 o hh] at e; cases e
        have hcell := W.imm c o v e
        have : cs[o]? = some v := by simpa [World.cell?, hb] using hcell
        have : new[o]? = some v := by rw [hold o hon]; exact this
        simp [World.cell?, heap_setRow w c cs new e' (0, 0) hb]; simpa using this
      · rw [cell?_of_heap (w := w)]
        · exact W.imm c o v e
        · rw [heap_setRow w b cs new e' (0, 0) hb, if_neg hcb]
  · have hcb : c ≠ b := fun hh => h3 i (hh ▸ hi)
    simp only [Mem.more]; rw [if_neg (fun hh => hcb hh.1)]; exact W.apart i c o hi
  · obtain ⟨k1, k2, k3, k', k4, k5, cs2, et, k6, k7⟩ := W.own c t' s e
    by_cases hcb : c = b
    · subst hcb
      have he : m.own c = some (t', s) := e
      rw [ho] at he; cases he
      refine ⟨k1, k2, k3, n + k, by rw [Heap.get_set _ _ _ _ hlt.2, if_pos rfl], fun o hoo => ?_, new, e', by rw [heap_setRow w c cs new e' (0, 0) hb, if_pos rfl], by rw [hnsz]; exact h7⟩
      have hmul : (n + k) * sz = n * sz + k * sz := Nat.add_mul n k sz
      simp only [Mem.more]
      rw [if_neg (fun hh => by omega)]
      exact h5 o (by omega)
    · refine ⟨k1, k2, k3, ?_⟩
      by_cases htt : t' = t
      · subst htt
        rw [hg] at k4; cases k4
        have hmul : (n + k) * s = n * s + k * s := Nat.add_mul n k s
        refine ⟨n + k, by rw [Heap.get_set _ _ _ _ hlt.2, if_pos rfl], fun o hoo => ?_, cs2, et, by rw [heap_setRow w b cs new e' (0, 0) hb, if_neg hcb]; exact k6, k7⟩
        simp only [Mem.more]
        rw [if_neg (fun hh => hcb hh.1)]
        exact k5 o (by omega)
      · exact ⟨k', by rw [Heap.get_set _ _ _ _ hlt.2, if_neg htt]; exact k4, fun o hoo => by simp only [Mem.more]; rw [if_neg (fun hh => hcb hh.1)]; exact k5 o hoo, cs2, et,
          by rw [heap_setRow w b cs new e' (0, 0) hb, if_neg hcb]; exact k6, k7⟩
  · obtain ⟨vs, k1, k2⟩ := W.glob g gs e
    exact ⟨vs, k1.mono hle, fun i v hi => hle.imm _ _ _ (k2 i v hi)⟩

end Go.Am
