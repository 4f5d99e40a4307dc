/-
  EACH ABSTRACT OPERATION IS THE MODEL'S: constants, literals, numbers, strings.
-/
import Derived.Test.YtobfakjhhpbdmaaGreatDoorAmOps5
import Derived.Laws.IdiomStrings
namespace Go.Am
open Go.RowKit

variable {P : Program} {genv : Nat → Option (List AV)} {B : Nat} {w₀ : World} {h : Heap} {m : Mem} {w : World}

theorem mapM_LR {f : Value → Option AV} (hf : ∀ v a, f v = some a → VR m a v) : ∀ (vs : List Value) (l : List AV), vs.mapM f = some l → LR m l vs := by
  intro vs
  induction vs with
  | nil => intro l e; simp at e; subst e; exact LR.nil m
  | cons v vs ih =>
    intro l e
    rw [List.mapM_cons] at e
    cases h1 : f v with
    | none => simp [h1] at e
    | some a =>
      cases h2 : vs.mapM f with
      | none => simp [h1, h2] at e
      | some r =>
        simp [h1, h2] at e
        subst e
        exact LR.cons (hf v a h1) (ih r h2)

theorem ofVal_sound : ∀ (n : Nat) (v : Value) (a : AV), ofVal n v = some a → VR m a v := by
  intro n
  induction n with
  | zero => intro v a e; cases e
  | succ n ih =>
    intro v a e
    cases v with
    | bool b => cases e; exact .bool b
    | int k i => cases e; exact .int k i
    | string s =>
      cases e
      have : s = ⟨s.data.toList.toArray⟩ := by cases s; rfl
      rw [this]; exact .str _
    | pointer p => cases p <;> cases e; exact .nilptr
    | slice p len cap =>
      cases p with
      | some p => cases e
      | none =>
        cases len with
        | succ _ => cases e
        | zero =>
          cases cap with
          | succ _ => cases e
          | zero => cases e; exact .nilsl
    | map p => cases p <;> cases e; exact .nilmap
    | nilFunc => cases e; exact .nilfn
    | nilIface => cases e; exact .nilif
    | agg cs =>
      simp only [ofVal] at e
      obtain ⟨l, hl, rfl⟩ := Option.map_eq_some_iff.1 e
      have := mapM_LR (m := m) (fun v a h => ih v a h) _ _ hl
      have h2 : VR m (.agg l) (.agg cs.toList.toArray) := .agg l cs.toList this.1 this.2
      simpa using h2
    | tuple cs =>
      simp only [ofVal] at e
      obtain ⟨l, hl, rfl⟩ := Option.map_eq_some_iff.1 e
      have := mapM_LR (m := m) (fun v a h => ih v a h) _ _ hl
      have h2 : VR m (.tup l) (.tuple cs.toList.toArray) := .tup l cs.toList this.1 this.2
      simpa using h2
    | _ => cases e

theorem zeroCells_spec {t : TypeId} {z : List AV} (e : zeroCells P t = some z) : ∃ i v, P.info? t = some i ∧ i.zero = some v ∧ LR m z v.cells.toList ∧ ∀ w, (zeroValue t).run P w = .ok v w := by
  unfold zeroCells at e
  split at e
  · rename_i i hi
    split at e
    · rename_i v hv
      exact ⟨i, v, hi, hv, mapM_LR (fun v a h => ofVal_sound _ v a h) _ _ e, fun w => by simp [zeroValue, info_run hi, hv]⟩
    · cases e
  · cases e
theorem zeroA_spec {t : TypeId} {z : AV} (e : zeroA P t = some z) : ∃ i v, P.info? t = some i ∧ i.zero = some v ∧ VR m z v ∧ ∀ w, (zeroValue t).run P w = .ok v w := by
  unfold zeroA at e
  split at e
  · rename_i i hi
    split at e
    · rename_i v hv
      exact ⟨i, v, hi, hv, ofVal_sound _ v z e, fun w => by simp [zeroValue, info_run hi, hv]⟩
    · cases e
  · cases e

theorem alloc_sound (W : WR P genv B w₀ h m w) {t : TypeId} {z : List AV} (e : zeroCells P t = some z) :
    ∃ v' m' w', (Instr.alloc t true (.tuple #[])).run P w = .ok v' w' ∧ VR m' (.ptr h.next 0) v' ∧ WR P genv B w₀ (h.push (.cells z)) m' w' ∧ Ext h m (h.push (.cells z)) m' := by
  obtain ⟨i, v, hi, hv, hl, hz⟩ := zeroCells_spec (m := m) e
  refine ⟨_, _, _, ?_, .ptr _ _ _ (ρ_box m h.next w.heap.size), W.newBox (.cells z) (.cells v.cells t) (.cells _ _ _ (hl.mono (le_box W _ _ (W.ρ_fresh _ (Nat.le_refl _))))), ext_newBox W _⟩
  simp [Instr.alloc, hz, newVar, newRow]

theorem box_sound (W : WR P genv B w₀ h m w) {t : TypeId} {x : AV} {x' : Value} (hx : VR m x x') (hu : x ≠ .unk) :
    ∃ v' m' w', (Instr.box t x').run P w = .ok v' w' ∧ VR m' (.ptr h.next 0) v' ∧ WR P genv B w₀ (h.push (.cells x.cells)) m' w' ∧ Ext h m (h.push (.cells x.cells)) m' := by
  refine ⟨_, _, _, ?_, .ptr _ _ _ (ρ_box m h.next w.heap.size), W.newBox (.cells x.cells) (.cells x'.cells t) (.cells _ _ _ ((hx.cells hu).mono (le_box W _ _ (W.ρ_fresh _ (Nat.le_refl _))))), ext_newBox W _⟩
  simp [Instr.box, newVar, newRow]

theorem mkMap_sound (W : WR P genv B w₀ h m w) {t : TypeId} :
    ∃ v' m' w', (Instr.makeMap t none).run P w = .ok v' w' ∧ VR m' (.map h.next) v' ∧ WR P genv B w₀ (h.push (.map [] 0)) m' w' ∧ Ext h m (h.push (.map [] 0)) m' :=
  ⟨_, _, _, by simp [Instr.makeMap], .map _ _ (ρ_box m h.next w.heap.size), W.newBox (.map [] 0) (.map #[] 0) (.map _ _ _ .nil), ext_newBox W _⟩

theorem range_sound (W : WR P genv B w₀ h m w) {t : TypeId} (hu : P.underlying t = some .string) (s : List UInt8) :
    ∃ v' m' w', (Instr.range t (.string ⟨s.toArray⟩)).run P w = .ok v' w' ∧ VR m' (.ptr h.next 0) v' ∧ WR P genv B w₀ (h.push (.siter s 0)) m' w' ∧ Ext h m (h.push (.siter s 0)) m' :=
  ⟨_, _, _, by simp [Instr.range, und_run hu], .ptr _ _ _ (ρ_box m h.next w.heap.size), W.newBox (.siter s 0) (.stringIter ⟨s.toArray⟩ 0) (.siter _ _), ext_newBox W _⟩

/-! ### Literals -/
theorem fold_set (off : Nat) : ∀ (us : List Value) (k : Nat) (cs : Array Value), off + k + us.length ≤ cs.size →
    (us.zipIdx k).foldl (fun (cs : Array Value) (p : Value × Nat) => cs.setIfInBounds (off + p.2) p.1) cs = (cs.toList.take (off + k) ++ us ++ cs.toList.drop (off + k + us.length)).toArray := by
  intro us
  induction us with
  | nil => intro k cs _; simp
  | cons u us ih =>
    intro k cs hl
    simp only [List.length_cons] at hl
    rw [List.zipIdx_cons, List.foldl_cons, ih (k + 1) _ (by simp; omega)]
    have hlt : off + k < cs.toList.length := by simp; omega
    congr 1
    rw [Array.toList_setIfInBounds]
    have e1 : (cs.toList.set (off + k) u).take (off + (k + 1)) = cs.toList.take (off + k) ++ [u] := by
      rw [← Nat.add_assoc, List.take_succ_eq_append_getElem (by simpa using hlt), List.take_set_of_le (Nat.le_refl _)]
      simp
    have e2 : (cs.toList.set (off + k) u).drop (off + (k + 1) + us.length) = cs.toList.drop (off + k + (us.length + 1)) := by
      rw [List.drop_set_of_lt (by omega)]
      congr 1; omega
    rw [e1, e2]; simp

theorem fill_step (off : Nat) (us : Array Value) (cs : Array Value) (hl : off + us.size ≤ cs.size) :
    us.zipIdx.foldl (fun (cs : Array Value) (p : Value × Nat) => cs.setIfInBounds (off + p.2) p.1) cs = (cs.toList.take off ++ us.toList ++ cs.toList.drop (off + us.size)).toArray := by
  rw [← Array.foldl_toList, Array.toList_zipIdx]
  have := fold_set off us.toList 0 cs (by simpa using hl)
  simpa using this

theorem fill_sound {ts : Tmps} {ρ : Operand → Value} (place : Nat → Option (Nat × Nat)) : ∀ (ps : List (Nat × Nat × Opd)) (qs : List (Nat × Operand)), ps.length = qs.length →
    (∀ (i : Nat) p q, ps[i]? = some p → qs[i]? = some q → place q.1 = some (p.1, p.2.1) ∧ VR m (ev ts p.2.2) (ρ q.2)) →
    ∀ (zero r : List AV) (zs : Array Value), LR m zero zs.toList → fillA zero ts ps = .ok r →
    ∃ rs : Array Value, Instr.fill place zs (qs.map fun (i, x) => (i, ρ x)) = some rs ∧ LR m r rs.toList := by
  intro ps
  induction ps with
  | nil =>
    intro qs hl _ zero r zs hz e
    cases qs with
    | nil => cases e; exact ⟨zs, rfl, hz⟩
    | cons _ _ => cases hl
  | cons p ps ih =>
    intro qs hl hp zero r zs hz e
    cases qs with
    | nil => cases hl
    | cons q qs =>
      obtain ⟨off, size, x⟩ := p
      obtain ⟨i, o⟩ := q
      obtain ⟨hplace, hv⟩ := hp 0 _ _ rfl rfl
      simp only [fillA] at e
      split at e
      · rename_i hszk
        obtain ⟨hsz, hkn⟩ := Bool.and_eq_true_iff.1 hszk
        split at e
        · rename_i z' hz'
          obtain ⟨h1, h2⟩ := overlay_spec _ _ _ _ hz'
          have hu : ev ts x ≠ .unk := fun hh => by rw [hh] at hkn; cases hkn
          · have hvc := hv.cells hu
            have hsize : (ρ o).cells.size = size := by rw [← Nat.eq_of_beq_eq_true hsz, hvc.1, Array.length_toList]
            have hle : off + (ρ o).cells.size ≤ zs.size := by
              have := hz.1; have := hvc.1; simp at *; omega
            have hstep := fill_step off (ρ o).cells zs hle
            obtain ⟨rs, h3, h4⟩ := ih qs (by simpa using hl) (fun j p q hp' hq' => hp (j + 1) p q (by simpa using hp') (by simpa using hq')) z' r
              (zs.toList.take off ++ (ρ o).cells.toList ++ zs.toList.drop (off + (ρ o).cells.size)).toArray (by
                rw [h2, List.toList_toArray, ← Array.length_toList, ← hvc.1]
                exact ((hz.take off).append hvc).append (hz.drop _)) e
            refine ⟨rs, ?_, h4⟩
            simp only [List.map_cons, Instr.fill, hplace]
            rw [if_neg (by simp [hsize]; omega)]
            rw [hstep]; exact h3
        · cases e
      · cases e

theorem mapM_run {α β : Type} {f : α → Sem β} {g : α → β} {w : World} : ∀ (l : List α), (∀ x ∈ l, (f x).run P w = .ok (g x) w) → (l.mapM f).run P w = .ok (l.map g) w := by
  intro l
  induction l with
  | nil => intro _; rfl
  | cons a l ih =>
    intro hf
    rw [List.mapM_cons]
    simp only [Sem.run_bind, hf a (by simp), ih (fun x hx => hf x (by simp [hx])), Result.andThen_ok, Sem.run_pure, List.map_cons]

theorem arr_mapM_run {α β : Type} {f : α → Sem β} {g : α → β} {w : World} (l : Array α) (hf : ∀ x ∈ l, (f x).run P w = .ok (g x) w) : (l.mapM f).run P w = .ok (l.map g) w := by
  rw [← Array.toArray_toList (xs := l), List.mapM_toArray]
  have := mapM_run (P := P) (w := w) l.toList (fun x hx => hf x (by simpa using hx))
  simp only [Sem.run_map, this, Result.andThen_ok, List.map_toArray]

theorem option_mapM_spec {α β : Type} {f : α → Option β} : ∀ (l : List α) (r : List β), l.mapM f = some r → l.length = r.length ∧ ∀ (i : Nat) a b, l[i]? = some a → r[i]? = some b → f a = some b := by
  intro l
  induction l with
  | nil => intro r e; simp at e; subst e; exact ⟨rfl, fun i a b h => by simp at h⟩
  | cons a l ih =>
    intro r e
    rw [List.mapM_cons] at e
    cases h1 : f a with
    | none => simp [h1] at e
    | some b =>
      cases h2 : l.mapM f with
      | none => simp [h1, h2] at e
      | some r' =>
        simp [h1, h2] at e
        subst e
        obtain ⟨h3, h4⟩ := ih r' h2
        refine ⟨by simp [h3], fun i x y hx hy => ?_⟩
        cases i with
        | zero => simp at hx hy; subst hx; subst hy; exact h1
        | succ i => exact h4 i x y (by simpa using hx) (by simpa using hy)

/-- A struct built from its fields. -/
theorem build_struct_sound {ts : Tmps} {ρ : Operand → Value} {t : TypeId} {fs : Array Field} {z : List AV} {parts : Array (Nat × Operand)} {ps : List (Nat × Nat × Opd)} {op : Operand → Opd}
    (hu : P.underlying t = some (.struct fs)) (hz : zeroCells P t = some z) (hsz : ∀ f ∈ fs, ∃ n, sizeA P f.type = some n)
    (hp : parts.toList.mapM (fun (p : Nat × Operand) => match (fs[p.1]? : Option Field) with
      | some f => (sizeA P f.type).map fun n => (f.offset, n, op p.2)
      | none => none) = some ps) (hop : ∀ x, VR m (ev ts (op x)) (ρ x)) {r : List AV} (e : fillA z ts ps = .ok r) :
    ∃ v', (Instr.build t (parts.map fun (i, x) => (i, ρ x))).run P w = .ok v' w ∧ VR m (.agg r) v' := by
  obtain ⟨i, v, hi, hv, hl, hzr⟩ := zeroCells_spec (m := m) hz
  obtain ⟨h1, h2⟩ := option_mapM_spec _ _ hp
  have hmap : (fs.mapM fun (f : Field) => do pure (f.offset, ← sizeOf f.type)).run P w = .ok (fs.map fun (f : Field) => (f.offset, (sizeA P f.type).getD 0)) w := by
    apply arr_mapM_run
    intro f hf
    obtain ⟨n, hn⟩ := hsz f hf
    obtain ⟨inf, hinf, hs⟩ := sizeA_spec hn
    simp [size_run hinf, hn, hs]
  obtain ⟨rs, h3, h4⟩ := fill_sound (m := m) (ts := ts) (ρ := ρ) ((fs.map fun (f : Field) => (f.offset, (sizeA P f.type).getD 0))[·]?) ps parts.toList h1.symm (fun j p q hpj hqj => by
    have := h2 j q p hqj hpj
    split at this
    · rename_i f hf
      obtain ⟨n, hn, rfl⟩ := Option.map_eq_some_iff.1 this
      exact ⟨by simp [hf, hn], hop _⟩
    · cases this) z r v.cells hl e
  have hpl : (parts.map fun (i, x) => (i, ρ x)).toList = parts.toList.map fun (i, x) => (i, ρ x) := by simp
  refine ⟨.agg rs, ?_, ?_⟩
  · simp only [Instr.build, Sem.run_bind, hzr, Result.andThen_ok, und_run hu, hmap, hpl]
    rw [show (fun x => (fs.map fun (f : Field) => (f.offset, (sizeA P f.type).getD 0))[x]?) = ((fs.map fun (f : Field) => (f.offset, (sizeA P f.type).getD 0))[·]?) from rfl, h3]
    rfl
  · have : VR m (.agg r) (.agg rs.toList.toArray) := .agg _ _ h4.1 h4.2
    simpa using this

theorem build_array_sound {ts : Tmps} {ρ : Operand → Value} {t et : TypeId} {len n : Nat} {z : List AV} {parts : Array (Nat × Operand)} {op : Operand → Opd}
    (hu : P.underlying t = some (.array len et)) (hz : zeroCells P t = some z) (hn : sizeA P et = some n) (hop : ∀ x, VR m (ev ts (op x)) (ρ x)) {r : List AV}
    (e : fillA z ts (parts.toList.map fun (i, x) => (i * n, n, op x)) = .ok r) :
    ∃ v', (Instr.build t (parts.map fun (i, x) => (i, ρ x))).run P w = .ok v' w ∧ VR m (.agg r) v' := by
  obtain ⟨i, v, hi, hv, hl, hzr⟩ := zeroCells_spec (m := m) hz
  obtain ⟨inf, hinf, hs⟩ := sizeA_spec hn
  obtain ⟨rs, h3, h4⟩ := fill_sound (m := m) (ts := ts) (ρ := ρ) (fun i => some (i * n, n)) (parts.toList.map fun (i, x) => (i * n, n, op x)) parts.toList (by simp) (fun j p q hpj hqj => by
    simp only [List.getElem?_map, hqj, Option.map_some] at hpj
    cases hpj
    exact ⟨rfl, hop _⟩) z r v.cells hl e
  have hpl : (parts.map fun (i, x) => (i, ρ x)).toList = parts.toList.map fun (i, x) => (i, ρ x) := by simp
  refine ⟨.agg rs, ?_, ?_⟩
  · simp only [Instr.build, Sem.run_bind, hzr, Result.andThen_ok, und_run hu, size_run hinf, hs, hpl, h3]
    rfl
  · have : VR m (.agg r) (.agg rs.toList.toArray) := .agg _ _ h4.1 h4.2
    simpa using this

end Go.Am
