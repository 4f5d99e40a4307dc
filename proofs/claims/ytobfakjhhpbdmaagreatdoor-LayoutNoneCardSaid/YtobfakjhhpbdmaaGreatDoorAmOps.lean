/-
  EACH ABSTRACT OPERATION IS THE MODEL'S: loads, stores, fields, indices.
-/
import Derived.Test.YtobfakjhhpbdmaaGreatDoorAmRel
import Derived.Laws.Cells
import Derived.Laws.CopyRow
import Derived.Laws.Append
import Derived.Laws.StructEq
import Derived.WalkKit
namespace Go.Am
open Go.RowKit

variable {P : Program} {genv : Nat → Option (List AV)} {B : Nat} {w₀ : World} {h : Heap} {m : Mem} {w : World}

theorem R.bind_ok {α β : Type} {x : R α} {f : α → R β} {b : β} (e : x.bind f = .ok b) : ∃ a, x = .ok a ∧ f a = .ok b := by
  cases x with
  | ok a => exact ⟨a, rfl, e⟩
  | no w => cases e

theorem addr_add (b o k : Nat) : (⟨b, o, none⟩ : Addr).add k = ⟨b, o + k, none⟩ := by
  unfold Addr.add; split <;> simp_all

theorem info_run {t : TypeId} {i : TypeInfo} (hi : P.info? t = some i) (w : World) : (typeInfo t).run P w = .ok i w := by simp [typeInfo, hi]
theorem size_run {t : TypeId} {i : TypeInfo} (hi : P.info? t = some i) (w : World) : (sizeOf t).run P w = .ok i.size w := by simp [sizeOf, info_run hi]
theorem und_run {t : TypeId} {d : TypeDesc} (hd : P.underlying t = some d) (w : World) : (underlying t).run P w = .ok d w := by simp [underlying, hd]

theorem aggOf_spec {t : TypeId} {n : Option Nat} (e : aggOf P t = some n) :
    ∃ i, P.info? t = some i ∧ ((n = some i.size ∧ ∀ w, (isAgg t).run P w = .ok true w) ∨ (n = none ∧ ∀ w, (isAgg t).run P w = .ok false w)) := by
  unfold aggOf at e
  split at e
  · rename_i hu hi
    cases e
    exact ⟨_, hi, .inl ⟨rfl, fun w => by simp [isAgg, und_run hu]⟩⟩
  · rename_i hu hi
    cases e
    exact ⟨_, hi, .inl ⟨rfl, fun w => by simp [isAgg, und_run hu]⟩⟩
  · rename_i d i h1 h2 hu hi
    cases e
    refine ⟨i, hi, .inr ⟨rfl, fun w => ?_⟩⟩
    simp only [isAgg, Sem.run_bind, und_run hu, Result.andThen_ok]
    cases d <;> first | rfl | exact absurd rfl (h1 _) | exact absurd rfl (h2 _ _)
  · cases e

theorem sizeA_spec {t : TypeId} {n : Nat} (e : sizeA P t = some n) : ∃ i, P.info? t = some i ∧ i.size = n := by
  unfold sizeA at e
  cases hi : P.info? t with
  | none => simp [hi] at e
  | some i => simp [hi] at e; exact ⟨i, rfl, e⟩

theorem takeN_spec : ∀ (n : Nat) (l r : List AV), takeN n l = some r → r = l.take n ∧ n ≤ l.length := by
  intro n
  induction n with
  | zero => intro l r e; simp [takeN] at e; exact ⟨by simp [e], by omega⟩
  | succ n ih =>
    intro l r e
    cases l with
    | nil => simp [takeN] at e
    | cons x l =>
      simp only [takeN] at e
      split at e
      · rename_i s hs
        cases e
        obtain ⟨h1, h2⟩ := ih _ _ hs
        exact ⟨by simp [h1], by simp; omega⟩
      · cases e

/-- Cells that the world bears, from a place on. -/
def CellsAt (m : Mem) (w : World) (b base : Nat) (cs : List AV) : Prop :=
  ∃ vs, LR m cs vs ∧ ∀ (i : Nat) v, vs[i]? = some v → w.cell? ⟨b, base + i, none⟩ = some v

theorem WR.cellsOf (W : WR P genv B w₀ h m w) {id b : Nat} {cs : List AV} (hr : m.ρ id = some b) (hg : h.get id = some (.cells cs)) :
    ∃ (vs : Array Value) (e : TypeId), w.heap[b]? = some (.cells vs e (0, 0)) ∧ LR m cs vs.toList := by
  obtain ⟨o, r, h1, h2, h3⟩ := W.obj id b hr
  rw [hg] at h1; cases h1
  cases h3 with
  | cells _ vs e k => exact ⟨vs, e, h2, k⟩

theorem WR.cellsAt (W : WR P genv B w₀ h m w) {id b : Nat} {cs : List AV} (hr : m.ρ id = some b) (hg : h.get id = some (.cells cs)) : CellsAt m w b 0 cs := by
  obtain ⟨vs, e, h1, h2⟩ := W.cellsOf hr hg
  refine ⟨vs.toList, h2, fun i v hv => ?_⟩
  simp [World.cell?, h1]; simpa using hv

theorem run_loadVar {t : TypeId} {n : Option Nat} (e : aggOf P t = some n) {b base off : Nat} {cs : List AV} {v : AV} (hc : CellsAt m w b base cs) (hr : readCells n cs off = .ok v) :
    ∃ v', (loadVar t ⟨b, base + off, none⟩).run P w = .ok v' w ∧ VR m v v' := by
  obtain ⟨vs, hl, hm⟩ := hc
  obtain ⟨i, hi, hn⟩ := aggOf_spec e
  rcases hn with ⟨rfl, ha⟩ | ⟨rfl, ha⟩
  · simp only [readCells] at hr
    split at hr
    · rename_i l hl'
      cases hr
      obtain ⟨rfl, hlen⟩ := takeN_spec _ _ _ hl'
      have hl2 := (hl.drop off).take i.size
      have hlen2 : ((vs.drop off).take i.size).length = i.size := by rw [← hl2.1]; simp at hlen ⊢; omega
      refine ⟨.agg ((vs.drop off).take i.size).toArray, ?_, .agg _ _ hl2.1 hl2.2⟩
      have hrun := run_loadCells_list (P := P) w ⟨b, base + off, none⟩ ((vs.drop off).take i.size) (fun j u hj => by
        rw [List.getElem?_take] at hj
        split at hj
        · rw [List.getElem?_drop] at hj
          rw [addr_add]
          have := hm _ _ hj
          rwa [← Nat.add_assoc] at this
        · cases hj)
      rw [hlen2] at hrun
      simp only [loadVar, Sem.run_bind, ha, Result.andThen_ok, if_true, size_run hi, hrun]
      rfl
    · cases hr
  · simp only [readCells, nth_eq] at hr
    split at hr
    · rename_i u hu
      cases hr
      obtain ⟨v', hv', hvr⟩ := hl.get hu
      refine ⟨v', ?_, hvr⟩
      simp only [loadVar, Sem.run_bind, ha, Result.andThen_ok, Bool.false_eq_true, if_false, run_load, hm _ _ hv']
    · cases hr

theorem loadA_sound (W : WR P genv B w₀ h m w) {t : TypeId} {n : Option Nat} (e : aggOf P t = some n) {x v : AV} {x' : Value} (hx : VR m x x') (hr : loadA h n x = .ok v) :
    ∃ v', (Instr.loadAt t x').run P w = .ok v' w ∧ VR m v v' := by
  cases hx with
  | ptr id off b hb =>
    simp only [loadA] at hr
    split at hr
    · rename_i cs hg
      obtain ⟨v', h1, h2⟩ := run_loadVar e (W.cellsAt hb hg) hr
      rw [Nat.zero_add] at h1
      exact ⟨v', by simp only [Instr.loadAt, Instr.sureAddr, Sem.run_bind, Sem.run_pure, Result.andThen_ok, h1], h2⟩
    · cases hr
  | ep cs vs b base off hl hc hi =>
    simp only [loadA] at hr
    obtain ⟨v', h1, h2⟩ := run_loadVar (m := m) (w := w) (b := b) (base := base) e ⟨vs, ⟨hl, hc⟩, fun i v hv => W.imm _ _ _ (hi i v hv)⟩ hr
    exact ⟨v', by simp only [Instr.loadAt, Instr.sureAddr, Sem.run_bind, Sem.run_pure, Result.andThen_ok, h1], h2⟩
  | _ => cases hr


/-! ### Stores -/
theorem overlay_spec : ∀ (off : Nat) (vs cs r : List AV), overlay off vs cs = some r → off + vs.length ≤ cs.length ∧ r = cs.take off ++ vs ++ cs.drop (off + vs.length) := by
  intro off
  induction off with
  | zero =>
    intro vs
    induction vs with
    | nil => intro cs r e; simp [overlay] at e; subst e; simp
    | cons v vs ih =>
      intro cs r e
      cases cs with
      | nil => simp [overlay] at e
      | cons c cs =>
        simp only [overlay] at e
        split at e
        · rename_i l hl
          cases e
          obtain ⟨h1, h2⟩ := ih _ _ hl
          refine ⟨by simp at h1 ⊢; omega, ?_⟩
          rw [h2]; simp
        · cases e
  | succ off ih =>
    intro vs cs r e
    cases cs with
    | nil => simp [overlay] at e
    | cons c cs =>
      simp only [overlay] at e
      split at e
      · rename_i l hl
        cases e
        obtain ⟨h1, h2⟩ := ih _ _ _ hl
        refine ⟨by simp at h1 ⊢; omega, ?_⟩
        rw [h2, show off + 1 + vs.length = (off + vs.length) + 1 from by omega]; simp
      · cases e

theorem VR.oneCell {a : AV} {v : Value} (r : VR m a v) (hc : a.isCell = true) : v.oneCell' = true := by
  cases r <;> first | rfl | cases hc

theorem cells_oneCell {a : AV} {v : Value} (r : VR m a v) (hc : a.cells.all AV.isCell = true) : ∀ u ∈ v.cells.toList, u.oneCell' = true := by
  have hu : a ≠ .unk := by rintro rfl; cases hc
  have hl := r.cells hu
  intro u hm
  obtain ⟨i, hi, rfl⟩ := List.getElem_of_mem hm
  have hi' : i < a.cells.length := by rw [hl.1]; exact hi
  have := List.all_eq_true.1 hc _ (List.getElem_mem hi')
  exact (hl.2 i _ _ (List.getElem?_eq_getElem hi') (List.getElem?_eq_getElem hi)).oneCell this

theorem heap_setRow (w : World) (g : Nat) (old new : Array Value) (t : TypeId) (fr : Nat × Nat) (hg : w.heap[g]? = some (.cells old t fr)) (k : Nat) :
    (w.setRow g new).heap[k]? = if k = g then some (.cells new t fr) else w.heap[k]? := by
  by_cases e : k = g
  · subst e; rw [if_pos rfl]; exact setRow_heap w k old new t fr hg
  · rw [if_neg e]
    simp only [World.setRow, Array.getElem?_modify]
    rw [if_neg (fun h => e h.symm)]

theorem below_setRow {a : World} (hb : Below B a w) {g : Nat} (hB : B ≤ g) (new : Array Value) : Below B a (w.setRow g new) :=
  hb.trans ⟨rfl, rfl, rfl, by simp [World.setRow], fun k hk => by
    simp only [World.setRow, Array.getElem?_modify]
    rw [if_neg (by omega)]⟩

theorem cell?_of_heap {w w' : World} {a : Addr} (e : w'.heap[a.block]? = w.heap[a.block]?) : w'.cell? a = w.cell? a := by simp [World.cell?, e]

/-- A box's cells are turned. -/
theorem WR.setCells (W : WR P genv B w₀ h m w) {id b : Nat} {cs new : List AV} {old vs : Array Value} {e : TypeId} (hr : m.ρ id = some b) (hg : h.get id = some (.cells cs))
    (hb : w.heap[b]? = some (.cells old e (0, 0))) (hl : LR m new vs.toList) : WR P genv B w₀ (h.set id (.cells new)) m (w.setRow b vs) := by
  have hid := (W.lt id b hr).1
  refine ⟨below_setRow W.below (W.lt id b hr).2.1 _, by simp [World.setRow]; exact W.size, W.inj, fun i c hc => ?_, fun i c hc => ?_, fun c o v hv => ?_, W.apart, fun c t sz ho => ?_, W.glob⟩
  · obtain ⟨h1, h2, h3⟩ := W.lt i c hc
    exact ⟨by simpa using h1, h2, by simpa [World.setRow] using h3⟩
  · rw [heap_setRow w b old vs e (0, 0) hb]
    by_cases hi : i = id
    · subst hi
      rw [hr] at hc; cases hc
      exact ⟨_, _, by rw [Heap.get_set _ _ _ _ hid, if_pos rfl], by rw [if_pos rfl], .cells _ _ _ hl⟩
    · have hcb : c ≠ b := fun hh => hi (W.inj i id b (hh ▸ hc) hr)
      obtain ⟨o, r, h1, h2, h3⟩ := W.obj i c hc
      exact ⟨o, r, by rw [Heap.get_set _ _ _ _ hid, if_neg hi]; exact h1, by rw [if_neg hcb]; exact h2, h3⟩
  · have hcb : c ≠ b := fun hh => by subst hh; rw [W.apart id c o hr] at hv; cases hv
    have := W.imm c o v hv
    rw [cell?_of_heap (w := w)]
    · exact this
    · rw [heap_setRow w b old vs e (0, 0) hb, if_neg hcb]
  · obtain ⟨h1, h2, h3, n, h4, h5, h6⟩ := W.own c t sz ho
    have htid : t ≠ id := fun hh => by subst hh; rw [h2] at hr; cases hr
    have hcb : c ≠ b := fun hh => h3 id (hh ▸ hr)
    exact ⟨h1, h2, h3, n, by rw [Heap.get_set _ _ _ _ hid, if_neg htid]; exact h4, h5, by rw [heap_setRow w b old vs e (0, 0) hb, if_neg hcb]; exact h6⟩

theorem storeA_sound (W : WR P genv B w₀ h m w) {t : TypeId} {n : Nat} (e : sizeA P t = some n) {x v : AV} {x' v' : Value} {h' : Heap} (hx : VR m x x') (hv : VR m v v')
    (hr : storeA h n x v = .ok h') : ∃ w', (Instr.storeAt t x' v').run P w = .ok () w' ∧ WR P genv B w₀ h' m w' ∧ h'.next = h.next := by
  cases hx with
  | ptr id off b hb =>
    simp only [storeA] at hr
    split at hr
    · rename_i cs hg
      split at hr
      · rename_i hc
        obtain ⟨hc1, hc2⟩ := Bool.and_eq_true_iff.1 hc
        split at hr
        · rename_i cs' ho
          cases hr
          obtain ⟨old, et, h1, h2⟩ := W.cellsOf hb hg
          obtain ⟨i, hi, hs⟩ := sizeA_spec e
          have hu : v ≠ .unk := by rintro rfl; cases hc2
          have hvc := hv.cells hu
          have hn : v.cells.length = n := Nat.eq_of_beq_eq_true hc1
          have hn' : v'.cells.size = n := by rw [← hn, hvc.1, Array.length_toList]
          obtain ⟨hl1, hl2⟩ := overlay_spec _ _ _ _ ho
          have hsz : off + v'.cells.toList.length ≤ old.size := by rw [← hvc.1, ← Array.length_toList, ← h2.1]; exact hl1
          refine ⟨_, ?_, W.setCells hb hg h1 (new := cs') (vs := (old.toList.take off ++ v'.cells.toList ++ old.toList.drop (off + v'.cells.toList.length)).toArray) ?_, by simp⟩
          · have hst := run_storeCells_at (P := P) b off et v'.cells.toList 0 old w h1 (by simpa using hsz) (cells_oneCell hv hc2)
            simp only [Instr.storeAt, Instr.sureAddr, storeVar, Sem.run_bind, Sem.run_pure, Result.andThen_ok, size_run hi]
            rw [if_neg (by rw [hn', hs]; simp)]
            simpa using hst
          · rw [hl2, List.toList_toArray, ← hvc.1]
            exact ((h2.take off).append hvc).append (h2.drop _)
        · cases hr
      · cases hr
    · cases hr
  | _ => cases hr

/-! ### Places -/
theorem faddr_sound {s : TypeId} {fs : Array Field} {fi n : Nat} {f : Field} (hu : P.underlying s = some (.struct fs)) (hf : fs[fi]? = some f) (hn : sizeA P f.type = some n) (h0 : n ≠ 0)
    {x v : AV} {x' : Value} (hx : VR m x x') (hr : addOff f.offset x = .ok v) : ∃ v', (Instr.fieldAt s x' fi).run P w = .ok v' w ∧ VR m v v' := by
  obtain ⟨i, hi, hs⟩ := sizeA_spec hn
  have hrun : ∀ a : Addr, (fieldPlace a f).run P w = .ok (a.add f.offset) w := fun a => by
    simp only [fieldPlace, Sem.run_bind, size_run hi, Result.andThen_ok]
    rw [if_neg (by rw [hs]; exact h0)]; rfl
  cases hx with
  | ptr id off b hb =>
    cases hr
    exact ⟨.pointer (some ⟨b, off + f.offset, none⟩), by simp [Instr.fieldAt, und_run hu, hf, Instr.sureAddr, hrun, addr_add], .ptr _ _ _ hb⟩
  | ep cs vs b base off hl hc hi =>
    cases hr
    exact ⟨.pointer (some ⟨b, base + (off + f.offset), none⟩), by simp [Instr.fieldAt, und_run hu, hf, Instr.sureAddr, hrun, addr_add, Nat.add_assoc], .ep _ _ _ _ _ hl hc hi⟩
  | _ => cases hr

theorem readCells_agg {t : TypeId} {n : Option Nat} (e : aggOf P t = some n) {cs : List AV} {vs : List Value} {off : Nat} {v : AV} (hl : LR m cs vs) (hr : readCells n cs off = .ok v) :
    ∃ v', (part t vs.toArray off).run P w = .ok v' w ∧ VR m v v' := by
  obtain ⟨i, hi, hn⟩ := aggOf_spec e
  rcases hn with ⟨rfl, ha⟩ | ⟨rfl, ha⟩
  · simp only [readCells] at hr
    split at hr
    · rename_i l hl'
      cases hr
      obtain ⟨rfl, hlen⟩ := takeN_spec _ _ _ hl'
      have hl2 := (hl.drop off).take i.size
      refine ⟨.agg ((vs.drop off).take i.size).toArray, ?_, .agg _ _ hl2.1 hl2.2⟩
      simp only [part, Sem.run_bind, ha, Result.andThen_ok, if_true, size_run hi, Sem.run_pure]
      congr 2
      apply Array.ext'
      simp [List.extract_eq_take_drop]
    · cases hr
  · simp only [readCells, nth_eq] at hr
    split at hr
    · rename_i u hu
      cases hr
      obtain ⟨v', hv', hvr⟩ := hl.get hu
      refine ⟨v', ?_, hvr⟩
      have : vs.toArray[off]? = some v' := by simpa using hv'
      simp only [part, Sem.run_bind, ha, Result.andThen_ok, Bool.false_eq_true, if_false, this, Sem.run_pure]
    · cases hr

theorem fld_sound {s : TypeId} {fs : Array Field} {fi : Nat} {f : Field} {n : Option Nat} (hu : P.underlying s = some (.struct fs)) (hf : fs[fi]? = some f) (hn : aggOf P f.type = some n)
    {x v : AV} {x' : Value} (hx : VR m x x') {cs : List AV} (hxc : x = .agg cs) (hr : readCells n cs f.offset = .ok v) : ∃ v', (Instr.field s x' fi).run P w = .ok v' w ∧ VR m v v' := by
  subst hxc
  cases hx with
  | agg cs vs hl hc =>
    obtain ⟨v', h1, h2⟩ := readCells_agg (w := w) hn ⟨hl, hc⟩ hr
    exact ⟨v', by simp [Instr.field, und_run hu, hf, asAgg, h1], h2⟩

end Go.Am
