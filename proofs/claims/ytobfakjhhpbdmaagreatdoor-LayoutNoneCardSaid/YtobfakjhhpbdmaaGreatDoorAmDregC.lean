/-
  REGIONS THAT DRAW THEIR ORDER: what the checks of the text say.
-/
import Derived.Test.YtobfakjhhpbdmaaGreatDoorAmDregB
namespace Go.Am

/-! ### What stands ahead -/
theorem fold_mask (acc : List Nat) (i : Nat) : ∀ (es : List Edge) (s : Nat), (es.foldl (fun s e => if Region.binds .any e then s ||| 2 ^ e.on ||| (acc[e.on]?).getD 0 else s) s).testBit i = true →
    s.testBit i = true ∨ ∃ e ∈ es, Region.binds .any e = true ∧ (e.on = i ∨ ((acc[e.on]?).getD 0).testBit i = true) := by
  intro es
  induction es with
  | nil => intro s h; exact .inl h
  | cons e es ih =>
    intro s h
    rcases ih _ h with h | ⟨e', h1, h2⟩
    · simp only at h
      split at h
      · rename_i hb
        simp only [Nat.testBit_or, Bool.or_eq_true] at h
        rcases h with (h | h) | h
        · exact .inl h
        · refine .inr ⟨e, by simp, hb, .inl ?_⟩
          rw [Nat.testBit_two_pow] at h
          exact of_decide_eq_true h
        · exact .inr ⟨e, by simp, hb, .inr h⟩
      · exact .inl h
    · exact .inr ⟨e', by simp [h1], h2⟩

theorem masks_old : ∀ (l : List Oper) (acc : List Nat) (j : Nat), j < acc.length → (masks l acc)[j]? = acc[j]? := by
  intro l
  induction l with
  | nil => intro acc j _; rfl
  | cons o r ih =>
    intro acc j hj
    simp only [masks]
    rw [ih _ _ (by simp; omega), List.getElem?_append_left hj]

theorem masks_at : ∀ (l : List Oper) (acc : List Nat) (t : Nat) (o : Oper), l[t]? = some o → ∃ pre, (masks l acc)[acc.length + t]? = some (maskOf pre o.after.toList) ∧ pre.length = acc.length + t ∧ ∀ j, j < pre.length → (masks l acc)[j]? = pre[j]? := by
  intro l
  induction l with
  | nil => intro acc t o h; simp at h
  | cons x r ih =>
    intro acc t o h
    cases t with
    | zero =>
      simp at h
      subst h
      refine ⟨acc, ?_, by simp, fun j hj => masks_old _ _ _ hj⟩
      simp only [masks, Nat.add_zero]
      rw [masks_old _ _ _ (by simp)]
      simp
    | succ t =>
      obtain ⟨pre, h1, h2, h3⟩ := ih (acc ++ [maskOf acc x.after.toList]) t o (by simpa using h)
      refine ⟨pre, ?_, ?_, ?_⟩
      · simp only [masks]
        rw [← h1]
        congr 1
        simp; omega
      · rw [h2]; simp; omega
      · intro j hj; simp only [masks]; exact h3 j hj

theorem bit_spec {ops : List Oper} {j i : Nat} {o : Oper} (ho : ops[j]? = some o) (h : bit (masks ops []) j i = true) :
    ∃ e ∈ o.after.toList, Region.binds .any e = true ∧ (e.on = i ∨ (e.on < j ∧ bit (masks ops []) e.on i = true)) := by
  obtain ⟨pre, h1, h2, h3⟩ := masks_at ops [] j o ho
  simp only [List.length_nil, Nat.zero_add] at h1 h2
  unfold bit at h
  rw [h1] at h
  rcases fold_mask pre i _ _ h with h | ⟨e, he, hb, h⟩
  · simp at h
  · refine ⟨e, he, hb, ?_⟩
    rcases h with h | h
    · exact .inl h
    · right
      by_cases hlt : e.on < pre.length
      · refine ⟨by omega, ?_⟩
        unfold bit
        rw [h3 _ hlt]
        exact h
      · rw [List.getElem?_eq_none (by omega)] at h
        simp at h

theorem bit_lt {ops : List Oper} {j i : Nat} (h : bit (masks ops []) j i = true) : j < ops.length := by
  by_cases hj : j < ops.length
  · exact hj
  · exfalso
    have hlen : ∀ (l : List Oper) (acc : List Nat), (masks l acc).length = acc.length + l.length := by
      intro l
      induction l with
      | nil => intro acc; rfl
      | cons o r ih => intro acc; simp only [masks]; rw [ih]; simp; omega
    unfold bit at h
    rw [List.getElem?_eq_none (by rw [hlen]; simp; omega)] at h
    simp at h

/-- What is closed under the edges is closed under the masks. -/
theorem mask_closed {ops : List Oper} {S : Nat → Prop} (hS : ∀ j o, S j → ops[j]? = some o → ∀ e ∈ o.after.toList, Region.binds .any e = true → S e.on) :
    ∀ (j : Nat) (o : Oper), ops[j]? = some o → (∀ e ∈ o.after.toList, Region.binds .any e = true → S e.on) → ∀ i, bit (masks ops []) j i = true → S i := by
  intro j
  induction j using Nat.strongRecOn with
  | ind j ih =>
    intro o ho he i hb
    obtain ⟨e, h1, h2, h3⟩ := bit_spec ho hb
    rcases h3 with rfl | ⟨h3, h4⟩
    · exact he e h1 h2
    · have hSe := he e h1 h2
      have hlt : e.on < ops.length := bit_lt h4
      exact ih e.on h3 ops[e.on] (List.getElem?_eq_getElem hlt) (hS e.on _ hSe (List.getElem?_eq_getElem hlt)) i h4

/-! ### Hard ones -/
def isHardC (o : AOper) : Bool := match o.cls with
  | .hard => true
  | _ => false
def hcl (l : List AOper) (i : Nat) : Nat := ((l.take i).filter isHardC).length

theorem hcl_cons (o : AOper) (l : List AOper) (i : Nat) : hcl (o :: l) (i + 1) = (if isHardC o then 1 else 0) + hcl l i := by
  simp only [hcl, List.take_succ_cons, List.filter_cons]
  split <;> simp <;> omega

theorem hardIdx_cons (o : AOper) (l : List AOper) (i : Nat) : hardIdx (o :: l) i = if isHardC o then i :: hardIdx l (i + 1) else hardIdx l (i + 1) := by
  simp only [hardIdx, isHardC]
  split <;> simp_all

theorem hardIdx_get : ∀ (l : List AOper) (i0 t : Nat) (o : AOper), l[t]? = some o → isHardC o = true → (hardIdx l i0)[hcl l t]? = some (i0 + t) := by
  intro l
  induction l with
  | nil => intro i0 t o h; simp at h
  | cons x r ih =>
    intro i0 t o h hh
    rw [hardIdx_cons]
    cases t with
    | zero => simp at h; subst h; rw [hh]; simp [hcl]
    | succ t =>
      have := ih (i0 + 1) t o (by simpa using h) hh
      rw [hcl_cons]
      split
      · rw [Nat.add_comm 1, List.getElem?_cons_succ, this]; congr 1; omega
      · rw [Nat.zero_add, this]; congr 1; omega

theorem hardIdx_inv : ∀ (l : List AOper) (i0 r x : Nat), (hardIdx l i0)[r]? = some x → ∃ t o, x = i0 + t ∧ l[t]? = some o ∧ isHardC o = true ∧ hcl l t = r := by
  intro l
  induction l with
  | nil => intro i0 r x h; simp [hardIdx] at h
  | cons o l ih =>
    intro i0 r x h
    rw [hardIdx_cons] at h
    split at h
    · rename_i hh
      cases r with
      | zero => simp at h; exact ⟨0, o, by omega, rfl, hh, by simp [hcl]⟩
      | succ r =>
        obtain ⟨t, o', h1, h2, h3, h4⟩ := ih (i0 + 1) r x (by simpa using h)
        exact ⟨t + 1, o', by omega, by simpa using h2, h3, by rw [hcl_cons, if_pos hh, h4]; omega⟩
    · rename_i hh
      obtain ⟨t, o', h1, h2, h3, h4⟩ := ih (i0 + 1) r x h
      exact ⟨t + 1, o', by omega, by simpa using h2, h3, by rw [hcl_cons, if_neg hh, h4]; omega⟩

theorem hardIdx_length : ∀ (l : List AOper) (i0 : Nat), (hardIdx l i0).length = hcl l l.length := by
  intro l
  induction l with
  | nil => intro i0; rfl
  | cons o l ih =>
    intro i0
    rw [hardIdx_cons]
    show _ = hcl (o :: l) (l.length + 1)
    rw [hcl_cons, ← ih (i0 + 1)]
    split <;> simp; omega

theorem dkinds_get (n : Nat) (ms hs : List Nat) : ∀ (l : List AOper) (i0 t : Nat), (dkinds n ms hs l i0)[t]? = (l[t]?).map fun o => ⟨o, dkOf n ms hs o (i0 + t)⟩ := by
  intro l
  induction l with
  | nil => intro i0 t; simp [dkinds]
  | cons o l ih =>
    intro i0 t
    simp only [dkinds]
    cases t with
    | zero => simp
    | succ t =>
      rw [List.getElem?_cons_succ, ih, List.getElem?_cons_succ]
      have : i0 + 1 + t = i0 + (t + 1) := by omega
      rw [this]
theorem dkinds_length (n : Nat) (ms hs : List Nat) : ∀ (l : List AOper) (i0 : Nat), (dkinds n ms hs l i0).length = l.length := by
  intro l
  induction l with
  | nil => intro i0; rfl
  | cons o l ih => intro i0; simp [dkinds, ih]
theorem isHardK_dk (n : Nat) (ms hs : List Nat) (o : AOper) (i : Nat) : isHardK ⟨o, dkOf n ms hs o i⟩ = isHardC o := by
  unfold isHardK isHardC dkOf
  cases o.cls <;> rfl
theorem dkinds_hc (n : Nat) (ms hs : List Nat) : ∀ (l : List AOper) (i0 t : Nat), hc (dkinds n ms hs l i0) t = hcl l t := by
  intro l
  induction l with
  | nil => intro i0 t; simp [dkinds, hc, hcl]
  | cons o l ih =>
    intro i0 t
    cases t with
    | zero => rfl
    | succ t =>
      simp only [dkinds]
      rw [hc_cons, hcl_cons, isHardK_dk, ih]
theorem dkinds_kind (n : Nat) (ms hs : List Nat) : ∀ (l : List AOper) (i0 : Nat), l.all notBad = true → ∀ o ∈ dkinds n ms hs l i0, KindOK o := by
  intro l
  induction l with
  | nil => intro i0 _ o ho; cases ho
  | cons x l ih =>
    intro i0 h o ho
    simp only [List.all_cons, Bool.and_eq_true] at h
    simp only [dkinds] at ho
    cases ho with
    | head =>
      have hb := h.1
      unfold KindOK dkOf
      unfold notBad at hb
      cases hc : x.cls <;> simp_all
    | tail _ ho => exact ih (i0 + 1) h.2 o ho

theorem chainOk_get {ms : List Nat} : ∀ {hs : List Nat}, chainOk ms hs = true → ∀ (r r' a b : Nat), r < r' → hs[r]? = some a → hs[r']? = some b → bit ms b a = true := by
  intro hs
  induction hs with
  | nil => intro _ r r' a b _ h; simp at h
  | cons x hs ih =>
    intro h r r' a b hlt ha hb
    simp only [chainOk, Bool.and_eq_true] at h
    cases r' with
    | zero => omega
    | succ r' =>
      have hb' : hs[r']? = some b := by simpa using hb
      cases r with
      | zero =>
        simp at ha
        subst ha
        exact List.all_eq_true.1 h.1 b (List.mem_of_getElem? hb')
      | succ r => exact ih h.2 r r' a b (by omega) (by simpa using ha) hb'

theorem usesOk_get {ms : List Nat} {l : List AOper} {i j d : Nat} {o p : AOper} (h : usesOk ms l i o = true) (hp : l[j]? = some p) (hd : p.dst = some d) (hij : i ≠ j) :
    o.dst ≠ some d ∧ (d ∈ o.uses → if j < i then bit ms i j = true else bit ms j i = true) := by
  have := List.all_eq_true.1 h (p, j) (by rw [List.mem_zipIdx_iff_getElem?]; exact hp)
  simp only [hd] at this
  have hne : Nat.beq i j = false := by
    cases hb : Nat.beq i j with
    | false => rfl
    | true => exact absurd (Nat.eq_of_beq_eq_true hb) hij
  rw [hne, Bool.false_or, Bool.and_eq_true] at this
  obtain ⟨h1, h2⟩ := this
  constructor
  · intro hh
    rw [hh] at h1
    simp at h1
  · intro hm
    have hany : (o.uses.any fun t => Nat.beq t d) = true := List.any_eq_true.2 ⟨d, hm, Nat.beq_refl d⟩
    rw [hany] at h2
    simp only [Bool.not_true, Bool.false_or] at h2
    split at h2 <;> (rename_i hlt; simp [hlt, h2])

theorem pc_mono {l : List DOper} {i j : Nat} {op : DOper} (hij : i < j) (ho : l[i]? = some op) (hp : isPreK op = true) : pc l i < pc l j := by
  have h1 : pc l (i + 1) = pc l i + 1 := by
    have hlt : i < l.length := (List.getElem?_eq_some_iff.1 ho).1
    have : l.take (i + 1) = l.take i ++ [op] := by rw [List.take_add_one, ho]; rfl
    simp only [pc, this, List.filter_append, List.length_append]
    simp [hp]
  have h2 : pc l (i + 1) ≤ pc l j := by
    have : l.take (i + 1) = (l.take j).take (i + 1) := by rw [List.take_take]; congr 1; omega
    unfold pc
    rw [this]
    exact (List.Sublist.filter _ (List.take_sublist _ _)).length_le
  omega

end Go.Am
