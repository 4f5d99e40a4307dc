/-
  REGIONS THAT DRAW THEIR ORDER: the machine's run, in whatever order, against the run in the order of the text.
-/
import Derived.Test.YtobfakjhhpbdmaaGreatDoorAmDregC
namespace Go.Am
open Go.RowKit

variable {P : Program} {genv : Nat → Option (List AV)} {B : Nat} {w₀ : World} {h : Heap} {m : Mem} {w : World}

/-- A new variable that the abstract heap holds already comes into the world. -/
theorem WR.adopt (W : WR P genv B w₀ h m w) {id : Nat} (hid : m.ρ id = none) {o : AO} (hg : h.get id = some o) (hto : ∀ n, o ≠ .tok n) (r : Obj) (hr : OR P genv (m.box id w.heap.size) o r) :
    WR P genv B w₀ h (m.box id w.heap.size) (w.alloc r) := by
  have hle := le_box W id w.heap.size hid
  have hρ : ∀ i b, (m.box id w.heap.size).ρ i = some b → (i = id ∧ b = w.heap.size) ∨ (m.ρ i = some b ∧ i ≠ id ∧ b < w.heap.size) := fun i b e => by
    simp only [Mem.box] at e
    split at e
    · cases e; exact .inl ⟨by assumption, rfl⟩
    · rename_i hne
      exact .inr ⟨e, hne, (W.lt i b e).2.2⟩
  refine ⟨W.below.alloc W.size _, by simp; have := W.size; omega, fun i j b hi hj => ?_, fun i b hi => ?_, fun i b hi => ?_, fun c o v e' => ?_, fun i b o' hi => ?_, fun c t sz e' => ?_, fun g cs e' => ?_⟩
  · rcases hρ i b hi with ⟨rfl, rfl⟩ | ⟨h1, h2, h3⟩ <;> rcases hρ j _ hj with ⟨rfl, hb⟩ | ⟨k1, k2, k3⟩
    · rfl
    · exact absurd k3 (by omega)
    · subst hb; exact absurd h3 (by omega)
    · exact W.inj i j b h1 k1
  · rcases hρ i b hi with ⟨rfl, rfl⟩ | ⟨h1, h2, h3⟩
    · exact ⟨Heap.lt_of_get hg, W.size, by simp⟩
    · obtain ⟨q1, q2, q3⟩ := W.lt i b h1
      exact ⟨q1, q2, by simp; omega⟩
  · rcases hρ i b hi with ⟨rfl, rfl⟩ | ⟨h1, h2, h3⟩
    · exact ⟨o, r, hg, heap_alloc_new w r, hr⟩
    · obtain ⟨o', r', q1, q2, q3⟩ := W.obj i b h1
      exact ⟨o', r', q1, by rw [heap_alloc_lt w r b h3]; exact q2, q3.mono hle⟩
  · have h1 := W.imm c o v e'
    have hlt := World.block_lt_of_cell? w _ h1
    rw [← h1]
    exact cell?_of_heap (heap_alloc_lt w r c hlt)
  · rcases hρ i b hi with ⟨rfl, rfl⟩ | ⟨h1, h2, h3⟩
    · exact W.imm_fresh o'
    · exact W.apart i b o' h1
  · obtain ⟨h1, h2, h3, n, h4, h5, cs, e, h6, h7⟩ := W.own c t sz e'
    have hclt := (W.own_lt e').1
    have htid : t ≠ id := fun hh => by subst hh; rw [hg] at h4; cases h4; exact hto n rfl
    refine ⟨h1, by simp only [Mem.box]; rw [if_neg htid]; exact h2, fun i hi => ?_, n, h4, h5, cs, e, by rw [heap_alloc_lt w r c hclt]; exact h6, h7⟩
    rcases hρ i c hi with ⟨rfl, rfl⟩ | ⟨q1, q2, q3⟩
    · omega
    · exact h3 i q1
  · obtain ⟨vs, h1, h2⟩ := W.glob g cs e'
    exact ⟨vs, h1.mono hle, h2⟩

/-- A new abstract object that is nowhere in the world yet. -/
theorem WR.pushDark (W : WR P genv B w₀ h m w) (o : AO) : WR P genv B w₀ (h.push o) m w := by
  have hget : ∀ i, i < h.next → (h.push o).get i = h.get i := fun i hi => by rw [Heap.get_push, if_neg (by omega)]
  refine ⟨W.below, W.size, W.inj, fun i b hi => ?_, fun i b hi => ?_, W.imm, W.apart, fun c t sz e' => ?_, W.glob⟩
  · obtain ⟨q1, q2, q3⟩ := W.lt i b hi
    exact ⟨by simp; omega, q2, q3⟩
  · obtain ⟨o', r', q1, q2, q3⟩ := W.obj i b hi
    exact ⟨o', r', by rw [hget i (W.lt i b hi).1]; exact q1, q2, q3⟩
  · obtain ⟨h1, h2, h3, n, h4, h5⟩ := W.own c t sz e'
    exact ⟨h1, h2, h3, n, by rw [hget t (W.own_lt e').2]; exact h4, h5⟩

theorem WR.preHeap (l : List DOper) : ∀ {h : Heap}, WR P genv B w₀ h m w → WR P genv B w₀ (preHeap l h) m w ∧ h.next ≤ (preHeap l h).next := by
  induction l with
  | nil => intro h W; exact ⟨W, Nat.le_refl _⟩
  | cons o l ih =>
    intro h W
    obtain ⟨o, k⟩ := o
    cases k with
    | pre zero win =>
      obtain ⟨h1, h2⟩ := ih (W.pushDark (.cells zero))
      exact ⟨h1, Nat.le_trans (by simp) h2⟩
    | _ => exact ih W

theorem getD_set_iff {l : Array Bool} {i : Nat} (hi : i < l.size) (j : Nat) : (l.setIfInBounds i true).getD j false = true ↔ (j = i ∨ l.getD j false = true) := by
  by_cases h : j = i
  · subst h; simp [hi]
  · have : (l.setIfInBounds i true).getD j false = l.getD j false := by simp [Array.getElem?_setIfInBounds_ne (fun hh => h hh.symm)]
    rw [this]; simp [h]

section
variable (P : Program) (genv : Nat → Option (List AV)) (B : Nat) (w₀ : World) (n : Nat) (ops : Array Oper)

def lOf : List AOper := ops.toList.map (compOper P genv n ops)
def msOf : List Nat := masks ops.toList []
def hsOf : List Nat := hardIdx (lOf P genv n ops) 0
def LOf : List DOper := dkinds (lOf P genv n ops).length (msOf ops) (hsOf P genv n ops) (lOf P genv n ops) 0

/-- What holds on the way: the listed ones have run, k hard ones among them. -/
structure DInv (V : List Heap) (vals : List AV) (s0 : St) (m0 : Mem) (b : Frame) (cs0 : List Frame) (listed : Array Bool) (k : Nat) (m : Mem) (w : World) (a : Act) (cs : List Frame) (ts : Tmps) : Prop where
  size : listed.size = ops.size
  closed : ∀ i o, listed.getD i false = true → ops.toList[i]? = some o → ∀ e ∈ o.after.toList, Region.binds .any e = true → listed.getD e.on false = true
  kle : k ≤ (hsOf P genv n ops).length
  hard : ∀ (r i : Nat), (hsOf P genv n ops)[r]? = some i → (listed.getD i false = true ↔ r < k)
  ran : ∀ i, listed.getD i false = true → i < vals.length
  tmps : TR m ts a.tmps
  put : ∀ i op t v, listed.getD i false = true → (LOf P genv n ops)[i]? = some op → op.o.dst = some t → vals[i]? = some v → tget ts t = v
  other : ∀ t, (∀ i op, listed.getD i false = true → (LOf P genv n ops)[i]? = some op → op.o.dst ≠ some t) → tget ts t = tget s0.tmps t
  asz : n ≤ a.tmps.size
  defs : DL m s0.defers a.defers
  kr : KR m b.kind cs0 s0.rc cs
  heap : ∃ g, V[k]? = some g ∧ WR P genv B w₀ g m w ∧ s0.heap.next + pc (LOf P genv n ops) (LOf P genv n ops).length ≤ g.next
  ext : ∀ i, i < s0.heap.next → m.ρ i = m0.ρ i
  le : m0.Le m
  fresh : ∀ i op, listed.getD i false = false → (LOf P genv n ops)[i]? = some op → isPreK op = true → m.ρ (s0.heap.next + pc (LOf P genv n ops) i) = none
end

section
variable {n : Nat} {ops : Array Oper} {V : List Heap} {vals : List AV} {s0 : St} {m0 : Mem} {b : Frame} {cs0 cs : List Frame} {listed : Array Bool} {k : Nat} {a : Act} {ts : Tmps}

theorem LOf_get {i : Nat} {o : Oper} (ho : ops.toList[i]? = some o) : (LOf P genv n ops)[i]? = some ⟨compOper P genv n ops o, dkOf (lOf P genv n ops).length (msOf ops) (hsOf P genv n ops) (compOper P genv n ops o) i⟩ := by
  simp only [LOf, dkinds_get, Nat.zero_add]
  rw [lOf, List.getElem?_map, ho]; rfl
theorem lOf_get {i : Nat} {o : Oper} (ho : ops.toList[i]? = some o) : (lOf P genv n ops)[i]? = some (compOper P genv n ops o) := by
  rw [lOf, List.getElem?_map, ho]; rfl
theorem lOf_length : (lOf P genv n ops).length = ops.size := by simp [lOf]
theorem LOf_length : (LOf P genv n ops).length = ops.size := by rw [LOf, dkinds_length, lOf_length]

structure DOk (P : Program) (genv : Nat → Option (List AV)) (n : Nat) (ops : Array Oper) : Prop where
  pre : ∀ (i : Nat) (o : Oper), ops.toList[i]? = some o → preOk (o, compOper P genv n ops o) = true
  bad : (lOf P genv n ops).all notBad = true
  uses : ∀ i o, (lOf P genv n ops)[i]? = some o → usesOk (msOf ops) (lOf P genv n ops) i o = true
  edges : ∀ i o, ops.toList[i]? = some o → edgesOk i o = true
  chain : chainOk (msOf ops) (hsOf P genv n ops) = true

theorem dregOk_spec (h : dregOk ops.toList (lOf P genv n ops) (msOf ops) (hsOf P genv n ops) = true) : DOk P genv n ops := by
  simp only [dregOk, Bool.and_eq_true] at h
  obtain ⟨⟨⟨⟨h0, h1⟩, h2⟩, h3⟩, h4⟩ := h
  exact ⟨fun i o ho => List.all_eq_true.1 h0 (o, compOper P genv n ops o) (List.mem_of_getElem? (i := i) (List.getElem?_zip_eq_some.2 ⟨ho, lOf_get ho⟩)), h1, fun i o ho => List.all_eq_true.1 h2 (o, i) (by rw [List.mem_zipIdx_iff_getElem?]; exact ho), fun i o ho => List.all_eq_true.1 h3 (o, i) (by rw [List.mem_zipIdx_iff_getElem?]; exact ho), h4⟩

theorem DInv.mask (I : DInv P genv B w₀ n ops V vals s0 m0 b cs0 listed k m w a cs ts) {i : Nat} {o : Oper} (ho : ops.toList[i]? = some o)
    (he : ∀ e ∈ o.after.toList, Region.binds .any e = true → listed.getD e.on false = true) (j : Nat) (hb : bit (msOf ops) i j = true) : listed.getD j false = true :=
  mask_closed (S := fun j => listed.getD j false = true) (fun j o hj ho => I.closed j o hj ho) i o ho he j hb

/-- What an operation looks at is as in the order of the text. -/
theorem DInv.agree (I : DInv P genv B w₀ n ops V vals s0 m0 b cs0 listed k m w a cs ts) (D : DOk P genv n ops) {i : Nat} {o : Oper} (ho : ops.toList[i]? = some o) (hni : listed.getD i false = false)
    (he : ∀ e ∈ o.after.toList, Region.binds .any e = true → listed.getD e.on false = true) : Agree (tsAt s0.tmps (LOf P genv n ops) vals i) ts (compOper P genv n ops o).uses := by
  intro t ht
  have hU := D.uses i _ (lOf_get (P := P) (genv := genv) (n := n) ho)
  have hLl : ∀ {j : Nat} {op : DOper}, (LOf P genv n ops)[j]? = some op → ∃ oj, ops.toList[j]? = some oj ∧ op.o = compOper P genv n ops oj := fun {j op} hj => by
    have hlt : j < ops.toList.length := by
      have := (List.getElem?_eq_some_iff.1 hj).1
      rw [LOf_length] at this; simpa using this
    have h0 : ops.toList[j]? = some ops.toList[j] := List.getElem?_eq_getElem hlt
    rw [LOf_get h0] at hj
    cases hj
    exact ⟨_, h0, rfl⟩
  -- does an operation of the region write it?
  by_cases hw : ∃ j op, (LOf P genv n ops)[j]? = some op ∧ op.o.dst = some t ∧ j ≠ i
  · obtain ⟨j, op, hj, hd, hji⟩ := hw
    obtain ⟨oj, hoj, hopj⟩ := hLl hj
    have huniq : ∀ j' op', (LOf P genv n ops)[j']? = some op' → op'.o.dst = some t → j' = j := fun j' op' hj' hd' => by
      by_cases hjj : j' = j
      · exact hjj
      · obtain ⟨oj', hoj', hopj'⟩ := hLl hj'
        have := (usesOk_get (D.uses j' _ (lOf_get hoj')) (lOf_get (P := P) (genv := genv) (n := n) hoj) (by rw [← hopj]; exact hd) hjj).1
        rw [← hopj'] at this
        exact absurd hd' this
    have hb := (usesOk_get hU (lOf_get (P := P) (genv := genv) (n := n) hoj) (by rw [← hopj]; exact hd) (fun hh => hji hh.symm)).2 ht
    split at hb
    · rename_i hlt
      have hS := I.mask ho he j hb
      have hran := I.ran j hS
      obtain ⟨v, hv⟩ : ∃ v, vals[j]? = some v := ⟨vals[j], List.getElem?_eq_getElem hran⟩
      rw [I.put j op t v hS hj hd hv]
      exact tsAt_put _ _ _ i j op hlt hj hd hv (fun j' op' h1 h2 h3 h4 => by have := huniq j' op' h3 h4; omega)
    · rename_i hlt
      have hnS : listed.getD j false = false := by
        cases hc : listed.getD j false with
        | false => rfl
        | true =>
          have := I.mask hoj (I.closed j oj hc hoj) i hb
          rw [hni] at this; cases this
      rw [I.other t (fun j' op' h1 h2 h3 => by have := huniq j' op' h2 h3; subst this; rw [hnS] at h1; cases h1)]
      exact tsAt_other _ _ _ i (fun j' op' h1 h2 h3 => by have := huniq j' op' h2 h3; omega)
  · have hno : ∀ j op, j ≠ i → (LOf P genv n ops)[j]? = some op → op.o.dst ≠ some t := fun j op h1 h2 h3 => hw ⟨j, op, h2, h3, h1⟩
    rw [I.other t (fun j' op' h1 h2 => hno j' op' (fun hh => by subst hh; rw [hni] at h1; cases h1) h2)]
    exact tsAt_other _ _ _ i (fun j' op' h1 h2 => hno j' op' (by omega) h2)

/-- After an operation has run. -/
theorem DInv.next (I : DInv P genv B w₀ n ops V vals s0 m0 b cs0 listed k m w a cs ts) (D : DOk P genv n ops) {i : Nat} {o : Oper} {op : DOper} {v : AV} (ho : ops.toList[i]? = some o) (hop : (LOf P genv n ops)[i]? = some op)
    (hv : vals[i]? = some v) (he : ∀ e ∈ o.after.toList, Region.binds .any e = true → listed.getD e.on false = true)
    {k' : Nat} {m' : Mem} {w' : World} {a' : Act} {cs' : List Frame} {h' : Heap} (hk : k' ≤ (hsOf P genv n ops).length)
    (hh : ∀ (r j : Nat), (hsOf P genv n ops)[r]? = some j → ((j = i ∨ listed.getD j false = true) ↔ r < k')) (S : SR m' ⟨tput op.o.dst v ts, s0.defers, s0.rc, h'⟩ a' n) (K : KR m' b.kind cs0 s0.rc cs')
    (hg : V[k']? = some h') (W : WR P genv B w₀ h' m' w') (hnx : s0.heap.next + pc (LOf P genv n ops) (LOf P genv n ops).length ≤ h'.next) (hext : ∀ i, i < s0.heap.next → m'.ρ i = m.ρ i) (hle : m.Le m')
    (hfr : ∀ j q, j ≠ i → listed.getD j false = false → (LOf P genv n ops)[j]? = some q → isPreK q = true → m.ρ (s0.heap.next + pc (LOf P genv n ops) j) = none → m'.ρ (s0.heap.next + pc (LOf P genv n ops) j) = none) :
    DInv P genv B w₀ n ops V vals s0 m0 b cs0 (listed.setIfInBounds i true) k' m' w' a' cs' (tput op.o.dst v ts) := by
  have hlt : i < listed.size := by
    rw [I.size]
    have := (List.getElem?_eq_some_iff.1 ho).1
    simpa using this
  have hset := fun j => getD_set_iff (l := listed) hlt j
  have hopo : op.o = compOper P genv n ops o := by rw [LOf_get ho] at hop; cases hop; rfl
  have hdiff : ∀ j q t, j ≠ i → (LOf P genv n ops)[j]? = some q → q.o.dst = some t → op.o.dst ≠ some t := fun j q t hji hj hd => by
    have hltj : j < ops.toList.length := by
      have := (List.getElem?_eq_some_iff.1 hj).1
      rw [LOf_length] at this; simpa using this
    have h0 : ops.toList[j]? = some ops.toList[j] := List.getElem?_eq_getElem hltj
    have hq := LOf_get (P := P) (genv := genv) (n := n) h0
    rw [hq] at hj
    cases hj
    rw [hopo]
    exact (usesOk_get (D.uses i _ (lOf_get ho)) (lOf_get (P := P) (genv := genv) (n := n) h0) hd (fun hh => hji hh.symm)).1
  have hput : ∀ t, op.o.dst ≠ some t → tget (tput op.o.dst v ts) t = tget ts t := fun t ht => by
    cases hd : op.o.dst with
    | none => rfl
    | some e =>
      show tget ((e, v) :: ts) t = _
      rw [tget_cons, if_neg (fun hh => ht (by rw [hd, hh]))]
  refine ⟨by simpa using I.size, fun j oj hj hoj e hem hb => ?_, hk, fun r j hr => ?_, fun j hj => ?_, S.tmps, fun j q t u hj hq hd hu => ?_, fun t ht => ?_, S.size, S.defers, K, ⟨h', hg, W, hnx⟩,
    fun j hj => (hext j hj).trans (I.ext j hj), I.le.trans hle, fun j q hj hq hp => ?_⟩
  · rw [hset]
    rw [hset] at hj
    rcases hj with rfl | hj
    · rw [ho] at hoj; cases hoj
      exact .inr (he e hem hb)
    · exact .inr (I.closed j oj hj hoj e hem hb)
  · rw [hset]; exact hh r j hr
  · rw [hset] at hj
    rcases hj with rfl | hj
    · exact (List.getElem?_eq_some_iff.1 hv).1
    · exact I.ran j hj
  · by_cases hji : j = i
    · subst hji
      rw [hop] at hq; cases hq
      rw [hv] at hu; cases hu
      rw [hd]
      show tget ((t, v) :: ts) t = v
      rw [tget_cons, if_pos rfl]
    · rw [hset] at hj
      rw [hput t (hdiff j q t hji hq hd)]
      exact I.put j q t u (hj.resolve_left hji) hq hd hu
  · rw [hput t (ht i op ((hset i).2 (.inl rfl)) hop)]
    exact I.other t (fun j q hj hq => ht j q ((hset j).2 (.inr hj)) hq)
  · have hji : j ≠ i := fun hh => by
      subst hh
      rw [(hset j).2 (.inl rfl)] at hj; cases hj
    have hnj : listed.getD j false = false := by
      cases hc : listed.getD j false with
      | false => rfl
      | true => rw [(hset j).2 (.inr hc)] at hj; cases hj
    exact hfr j q hji hnj hq hp (I.fresh j q hnj hq hp)

end
end Go.Am
