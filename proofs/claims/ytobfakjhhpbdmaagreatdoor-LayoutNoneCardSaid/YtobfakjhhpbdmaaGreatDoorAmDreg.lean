/-
  REGIONS THAT DRAW THEIR ORDER: the whole.
-/
import Derived.Test.YtobfakjhhpbdmaaGreatDoorAmDregD
import Derived.Orders
namespace Go.Am
open Go.RowKit

variable {P : Program} {genv : Nat → Option (List AV)} {B : Nat} {w₀ : World} {m : Mem} {w : World}

theorem orNone_eq {s : String} {x : Option AOp} {z : List AV} (h : orNone s x = .o3 (.alloc z)) : x = some (.o3 (.alloc z)) := by
  cases x with
  | none => cases h
  | some o => rw [show orNone s (some o) = o from rfl] at h; rw [h]

theorem comp_alloc {t : TypeId} {z : List AV} (h : compOp P genv (.alloc t) = .o3 (.alloc z)) : zeroCells P t = some z := by
  have := orNone_eq h
  obtain ⟨z', hz, e⟩ := Option.map_eq_some_iff.1 this
  cases e
  exact hz

theorem cls_pre {op : AOp} {z : List AV} (h : op.cls = .pre z) : op = .o3 (.alloc z) := by
  cases op with
  | mov x => cases h
  | call f l => cases h
  | u1 u x =>
    cases u <;> try (cases h; done)
    rename_i k
    cases k <;> cases h
  | u2 u x => cases u <;> cases h
  | b2 b x y => cases b <;> cases h
  | o3 o => cases o <;> cases h; rfl

section
variable {n : Nat} {ops : Array Oper} {V : List Heap} {vals : List AV} {s0 : St} {m0 : Mem} {b : Frame} {cs0 cs : List Frame} {listed : Array Bool} {k : Nat} {a : Act} {ts : Tmps} {kk : List Item}
  {rec : Task → R Ans} {rd : Option Nat} {fn : FuncId} {i : Nat} {o : Oper} {rest : List Nat}

/-- One operation, as the draw has it. -/
theorem dstep_sound (hrec : SoundRec P genv B w₀ rec) (D : DOk P genv n ops) (LR : LexRun rec rd s0.defers s0.rc V s0.tmps (LOf P genv n ops) 0 s0.heap.next vals) (F : FR m fn rd b)
    (I : DInv P genv B w₀ n ops V vals s0 m0 b cs0 listed k m w a cs ts) (ho : ops.toList[i]? = some o) (hni : listed.getD i false = false)
    (he : ∀ e ∈ o.after.toList, Region.binds .any e = true → listed.getD e.on false = true) (hi : i < vals.length) :
    ∃ a' m' w' cs' ts' k', Steps P (lone (b.atR a (.inRegion ops (i :: rest) :: kk)) cs w) (lone (b.atR a' (.inRegion ops rest :: kk)) cs' w') ∧
      DInv P genv B w₀ n ops V vals s0 m0 b cs0 (listed.setIfInBounds i true) k' m' w' a' cs' ts' ∧ m.Le m' := by
  have hoA : ops[i]? = some o := by simpa using ho
  obtain ⟨v, hv⟩ : ∃ v, vals[i]? = some v := ⟨vals[i], List.getElem?_eq_getElem hi⟩
  obtain ⟨op, hop, hF⟩ := LR.fact i v hv
  have A := I.agree D ho hni he
  obtain ⟨g, hg, W, hnx⟩ := I.heap
  have hK : KindOK op := dkinds_kind _ _ _ _ 0 D.bad op (List.mem_of_getElem? hop)
  have hget := LOf_get (P := P) (genv := genv) (n := n) ho
  rw [hop] at hget
  have hpcl : ∀ (j : Nat) (q : DOper), (LOf P genv n ops)[j]? = some q → isPreK q = true → s0.heap.next + pc (LOf P genv n ops) j < g.next := fun j q hj hp => by
    have := pc_mono (List.getElem?_eq_some_iff.1 hj).1 hj hp
    omega
  -- what is common to all but the new variables
  have fin : ∀ (g' : Heap) (k' : Nat), stepOper rec rd op.o ⟨ts, s0.defers, s0.rc, g⟩ = .ok (.normal, ⟨tput op.o.dst v ts, s0.defers, s0.rc, g'⟩) → V[k']? = some g' → k' ≤ (hsOf P genv n ops).length →
      (∀ (r j : Nat), (hsOf P genv n ops)[r]? = some j → ((j = i ∨ listed.getD j false = true) ↔ r < k')) →
      ∃ a' m' w' cs' ts' k', Steps P (lone (b.atR a (.inRegion ops (i :: rest) :: kk)) cs w) (lone (b.atR a' (.inRegion ops rest :: kk)) cs' w') ∧
        DInv P genv B w₀ n ops V vals s0 m0 b cs0 (listed.setIfInBounds i true) k' m' w' a' cs' ts' ∧ m.Le m' := by
    intro g' k' e hg' hk hh
    have ec : op.o = compOper P genv n ops o := by
      simp only [Option.some.injEq] at hget
      rw [hget]
    rw [ec] at e
    obtain ⟨a', m', w', cs', fr, q1, q2, q3, q4, q5, q6⟩ := stepOper_sound (s := ⟨ts, s0.defers, s0.rc, g⟩) (k := kk) (rest := rest) (cs := cs) (a := a) (n := n) (cs0 := cs0) hrec hoA F ⟨I.tmps, I.asz, I.defs⟩ W I.kr e
    cases q2
    rw [← ec] at q3
    have hge : s0.heap.next ≤ g.next := by omega
    exact ⟨a', m', w', cs', _, k', q1, I.next D ho hop hv he hk hh q3 q5 hg' q4 (Nat.le_trans hnx q6.next) (fun j hj => q6.old j (Nat.lt_of_lt_of_le hj hge)) q6.le (fun j q _ _ hj hp h0 => by rw [q6.old _ (hpcl j q hj hp)]; exact h0), q6.le⟩
  have Aop : Agree (tsAt s0.tmps (LOf P genv n ops) vals i) ts op.o.uses := by
    simp only [Option.some.injEq] at hget
    rw [hget]; exact A
  -- nothing hard: the same heap
  have keep : isHardC (compOper P genv n ops o) = false → ∀ (r j : Nat), (hsOf P genv n ops)[r]? = some j → ((j = i ∨ listed.getD j false = true) ↔ r < k) := fun hnh r j hr => by
    obtain ⟨t, o', rfl, h2, h3, _⟩ := hardIdx_inv _ _ _ _ hr
    rw [Nat.zero_add] at hr ⊢
    have hne : t ≠ i := fun hh => by
      subst hh
      rw [lOf_get ho] at h2
      cases h2
      rw [hnh] at h3; cases h3
    rw [← I.hard r t hr]
    exact ⟨fun h => h.resolve_left hne, .inr⟩
  have hdk : op.k = dkOf (lOf P genv n ops).length (msOf ops) (hsOf P genv n ops) (compOper P genv n ops o) i := by
    simp only [Option.some.injEq] at hget
    rw [hget]
  have hoo : op.o = compOper P genv n ops o := by
    simp only [Option.some.injEq] at hget
    rw [hget]
  have hwin : k ∈ win (msOf ops) (hsOf P genv n ops) i := by
    refine List.mem_filter.2 ⟨List.mem_range.2 (by have := I.kle; omega), ?_⟩
    simp only [winAt, Bool.and_eq_true, List.all_eq_true, Bool.not_eq_true']
    refine ⟨fun x hx => ?_, fun x hx => ?_⟩
    · obtain ⟨r, hr⟩ := List.getElem?_of_mem hx
      rw [List.getElem?_take] at hr
      split at hr
      · rename_i hlt
        have hS := (I.hard r x hr).2 hlt
        cases hb : bit (msOf ops) x i with
        | false => rfl
        | true =>
          have hxl : x < ops.toList.length := bit_lt hb
          have := I.mask (List.getElem?_eq_getElem hxl) (I.closed x _ hS (List.getElem?_eq_getElem hxl)) i hb
          rw [hni] at this; cases this
      · cases hr
    · obtain ⟨r, hr⟩ := List.getElem?_of_mem hx
      rw [List.getElem?_drop] at hr
      cases hb : bit (msOf ops) i x with
      | false => rfl
      | true =>
        have := (I.hard (k + r) x hr).1 (I.mask ho he x hb)
        omega
  unfold Fact at hF
  unfold KindOK at hK
  cases hkd : op.k with
  | soft =>
    rw [hkd] at hF hK
    obtain ⟨g0, hl⟩ := hF
    rw [lookVal_congr Aop] at hl
    have hl := lookVal_blind (h' := g) hK hl
    refine fin g k (stepOper_look (.inl hK) hl) hg I.kle (keep ?_)
    rw [← hoo]; unfold isHardC; rw [hK]
  | look win' =>
    rw [hkd] at hF hK
    have hw : win' = win (msOf ops) (hsOf P genv n ops) i := by
      rw [hkd] at hdk
      unfold dkOf at hdk
      rw [← hoo, hK] at hdk
      cases hdk; rfl
    have hl := hF k (hw ▸ hwin) g hg
    rw [lookVal_congr Aop] at hl
    refine fin g k (stepOper_look (.inr hK) hl) hg I.kle (keep ?_)
    rw [← hoo]; unfold isHardC; rw [hK]
  | hard last =>
    rw [hkd] at hF hK
    obtain ⟨g1, g2, hg1, hg2, hs⟩ := hF
    have hhc : isHardC (compOper P genv n ops o) = true := by rw [← hoo]; unfold isHardC; rw [hK]
    have hr := hardIdx_get _ 0 i _ (lOf_get (P := P) (genv := genv) (n := n) ho) hhc
    rw [Nat.zero_add] at hr
    have hcr : hc (LOf P genv n ops) i = hcl (lOf P genv n ops) i := dkinds_hc _ _ _ _ _ _
    have hrk : hcl (lOf P genv n ops) i = k := by
      have h1 : ¬ hcl (lOf P genv n ops) i < k := fun hh => by
        have := (I.hard _ i hr).2 hh
        rw [hni] at this; cases this
      by_cases h2 : k < hcl (lOf P genv n ops) i
      · exfalso
        have hkl : k < (hsOf P genv n ops).length := Nat.lt_trans h2 (List.getElem?_eq_some_iff.1 hr).1
        have hb := chainOk_get D.chain k _ _ i h2 (List.getElem?_eq_getElem hkl) hr
        have := (I.hard k _ (List.getElem?_eq_getElem hkl)).1 (I.mask ho he _ hb)
        omega
      · omega
    rw [Nat.zero_add, hcr, hrk] at hg1 hg2
    rw [hg] at hg1; cases hg1
    rcases stepOper_hard hK hs with ⟨v', h', _, h2, h3⟩ | ⟨ch, h', h1, _⟩
    · injection h2 with e1 _ _ e4
      subst e4
      have hlen : k < (hsOf P genv n ops).length := by rw [← hrk]; exact (List.getElem?_eq_some_iff.1 hr).1
      have e3 := h3 ts Aop
      have hv2 : tput op.o.dst v ts = tput op.o.dst v' ts := by
        cases hd : op.o.dst with
        | none => rfl
        | some d =>
          rw [hd] at e1
          have : (d, v) :: tsAt s0.tmps (LOf P genv n ops) vals i = (d, v') :: tsAt s0.tmps (LOf P genv n ops) vals i := e1
          injection this with e5 _
          injection e5 with _ e6
          rw [e6]
      refine fin g2 (k + 1) (by rw [hv2]; exact e3) hg2 hlen (fun r j hj => ?_)
      constructor
      · rintro (rfl | hl)
        · obtain ⟨t, o', ht, h5, _, h6⟩ := hardIdx_inv _ _ _ _ hj
          rw [Nat.zero_add] at ht
          subst ht
          omega
        · have := (I.hard r j hj).1 hl
          omega
      · intro hlt
        by_cases hrk' : r < k
        · exact .inr ((I.hard r j hj).2 hrk')
        · have : r = k := by omega
          subst this
          rw [hrk] at hr
          have : (hsOf P genv n ops)[r]? = some i := hr
          rw [hj] at this
          cases this
          exact .inl rfl
    · cases h1
  | pre zero win' =>
    rw [hkd] at hF hK
    obtain ⟨rfl, hF⟩ := hF
    have hw : win' = win (msOf ops) (hsOf P genv n ops) i := by
      rw [hkd] at hdk
      unfold dkOf at hdk
      rw [← hoo, hK] at hdk
      cases hdk; rfl
    have hgz := hF k (hw ▸ hwin) g hg
    have hpre : isPreK op = true := by unfold isPreK; rw [hkd]
    have hq := I.fresh i op hni hop hpre
    have hcl : (compOper P genv n ops o).cls = .pre zero := by rw [← hoo]; exact hK
    -- the model's operation
    have hpo := D.pre i o ho
    have hal : ∃ t, o.op = .alloc t := by
      simp only [preOk, hcl] at hpo
      cases hop' : o.op with
      | alloc t => exact ⟨t, rfl⟩
      | _ => rw [hop'] at hpo; cases hpo
    obtain ⟨t, hal⟩ := hal
    have hinv : compGuard ops o = some none ∧ dstOk n o.dst = true ∧ op.o.dst = o.dst ∧ compOp P genv o.op = .o3 (.alloc zero) := by
      rw [hoo]
      unfold compOper at hcl ⊢
      split at hcl
      · rename_i gd hgd hdo
        unfold AOper.cls at hcl
        split at hcl
        · cases hcl
        · rename_i hx hne
          refine ⟨?_, hdo, rfl, cls_pre hcl⟩
          cases gd with
          | none => exact hgd
          | some x => exact absurd (hne _ _ hcl rfl) (by simp)
      · cases hcl
    obtain ⟨i1, i2, i3, i4⟩ := hinv
    rw [hal] at i4
    have hz := comp_alloc i4
    have hwant : Region.wanted o (yielded ops a.tmps) = true := guard_sound (s := ⟨ts, [], .plain, g⟩) i1 I.tmps rfl
    obtain ⟨ti, zv, hi1, hi2, hi3, hi4⟩ := zeroCells_spec (m := m) hz
    have hrun : (execOp a.eval o).run P w = .ok (.value (.pointer (some ⟨w.heap.size, 0, none⟩))) (w.alloc (.cells zv.cells t)) := by
      simp [execOp, hal, Instr.alloc, hi4, newVar, newRow, Sem.run_bind]
    have hro : b.roundOf = none ∨ ∀ c, o.op ≠ .defer c := .inr (fun c hc => by rw [hal] at hc; cases hc)
    have hst := step_value (P := P) (b := b) (k := kk) (cs := cs) (rest := rest) hoA hwant hro hrun
    rw [finish_op hoA] at hst
    have hle := le_box W _ w.heap.size hq
    have W' := W.adopt hq hgz (fun n hh => by cases hh) (.cells zv.cells t) (.cells _ _ _ (hi3.mono hle))
    have S' : SR (m.box (s0.heap.next + pc (LOf P genv n ops) i) w.heap.size) ⟨tput op.o.dst (.ptr (s0.heap.next + pc (LOf P genv n ops) i) 0) ts, s0.defers, s0.rc, g⟩ (a.put o.dst (.pointer (some ⟨w.heap.size, 0, none⟩))) n := by
      have S0 : SR (m.box (s0.heap.next + pc (LOf P genv n ops) i) w.heap.size) ⟨ts, s0.defers, s0.rc, g⟩ a n := ⟨I.tmps.mono hle, I.asz, I.defs.mono hle⟩
      rw [i3]
      exact S0.put i2 (.ptr _ _ _ (ρ_box _ _ _)) g
    have hv' : vals[i]? = some (.ptr (s0.heap.next + pc (LOf P genv n ops) i) 0) := hv
    refine ⟨_, _, _, cs, _, k, .one hst, I.next D ho hop hv' he I.kle (keep ?_) S' (I.kr.mono hle) hg W' hnx (fun j hj => ?_) hle (fun j q hji hnj hj hp h0 => ?_), hle⟩
    · unfold isHardC; rw [hcl]
    · simp only [Mem.box]; rw [if_neg (by omega)]
    · simp only [Mem.box]
      rw [if_neg]
      · exact h0
      · intro hh
        rcases Nat.lt_or_gt_of_ne hji with hlt | hlt
        · have := pc_mono hlt hj hp; omega
        · have := pc_mono hlt hop hpre; omega

/-! ### The whole -/
theorem filter_lt {α : Type} {p q : α → Bool} (hqp : ∀ x, q x = true → p x = true) : ∀ (l : List α), (l.filter q).length ≤ (l.filter p).length ∧ ∀ x ∈ l, p x = true → q x = false → (l.filter q).length < (l.filter p).length := by
  intro l
  induction l with
  | nil => exact ⟨Nat.le_refl _, fun x hx => by cases hx⟩
  | cons y l ih =>
    have hle : ((y :: l).filter q).length ≤ ((y :: l).filter p).length := by
      simp only [List.filter_cons]
      split
      · rename_i h
        rw [if_pos (hqp _ h)]
        simp only [List.length_cons]
        exact Nat.succ_le_succ ih.1
      · split
        · simp only [List.length_cons]; exact Nat.le_succ_of_le ih.1
        · exact ih.1
    refine ⟨hle, fun x hx hp hq => ?_⟩
    cases hx with
    | head =>
      simp only [List.filter_cons, hp, hq, if_true, List.length_cons]
      exact Nat.lt_succ_of_le ih.1
    | tail _ hx =>
      have := ih.2 x hx hp hq
      simp only [List.filter_cons]
      split
      · rename_i h
        rw [if_pos (hqp _ h)]
        simp only [List.length_cons]; omega
      · split
        · simp only [List.length_cons]; omega
        · exact this

def unl (N : Nat) (listed : Array Bool) : Nat := ((List.range N).filter fun i => !listed.getD i false).length
theorem unl_set {N i : Nat} {listed : Array Bool} (hi : i < N) (hs : listed.size = N) (hn : listed.getD i false = false) : unl N (listed.setIfInBounds i true) < unl N listed := by
  refine (filter_lt (fun x hx => ?_) _).2 i (List.mem_range.2 hi) (by simp [hn]) ?_
  · cases hc : listed.getD x false with
    | false => rfl
    | true =>
      rw [(getD_set_iff (by omega) x).2 (.inr hc)] at hx; cases hx
  · rw [(getD_set_iff (by omega) i).2 (.inl rfl)]; rfl
theorem unl_zero {N : Nat} {listed : Array Bool} (h : unl N listed = 0) (i : Nat) (hi : i < N) : listed.getD i false = true := by
  cases hc : listed.getD i false with
  | true => rfl
  | false =>
    have : i ∈ (List.range N).filter fun i => !listed.getD i false := List.mem_filter.2 ⟨List.mem_range.2 hi, by simp [hc]⟩
    rw [List.length_eq_zero_iff.1 h] at this
    cases this

/-- None is ready: all have run. -/
theorem all_listed (D : DOk P genv n ops) (I : DInv P genv B w₀ n ops V vals s0 m0 b cs0 listed k m w a cs ts) (hr : Region.ready .any ops listed = []) : ∀ i, i < ops.size → listed.getD i false = true := by
  intro i
  induction i using Nat.strongRecOn with
  | ind i ih =>
    intro hi
    cases hc : listed.getD i false with
    | true => rfl
    | false =>
      exfalso
      have hmem : i ∈ Region.ready .any ops listed := by
        refine mem_ready.2 ⟨?_, ops[i], by simp [hi], fun e he hb => ?_⟩
        · have : i < listed.size := by rw [I.size]; exact hi
          simpa [this] using hc
        · have hE := D.edges i ops[i] (by simp [hi])
          have := List.all_eq_true.1 hE e (by simpa using he)
          rw [hb] at this
          simp only [Bool.not_true, Bool.false_or] at this
          have hlt : e.on < i := by simpa [Nat.blt_eq] using this
          exact ih e.on hlt (by omega)
      rw [hr] at hmem
      cases hmem

theorem TR.same {ts' : Tmps} (T : TR m ts a.tmps) (h : ∀ t, tget ts' t = tget ts t) : TR m ts' a.tmps := fun t => by rw [h t]; exact T t

variable {r : DAns}

theorem dfinish {keep : Option (List Nat)} {ans : Ans} (D : DOk P genv n ops) (O : Out rec rd s0.defers s0.rc V s0.tmps (LOf P genv n ops) 0 vals r) (hans : dregEnd (LOf P genv n ops) keep s0.tmps r = .ok ans)
    (I : DInv P genv B w₀ n ops V vals s0 m0 b cs0 listed k m w a cs ts) (hall : ∀ i, i < ops.size → listed.getD i false = true) (hge : s0.heap.next ≤ s0.heap.next) :
    LandsA P genv B w₀ n b cs0 kk s0.heap m0 (lone (b.atR a (.inRegion ops [] :: kk)) cs w) ans := by
  have hLlen : (LOf P genv n ops).length = ops.size := LOf_length
  rcases O with ⟨o1, o2, ⟨g, o3, o4⟩, o5⟩ | ⟨ch, g, g', op, o1, o2, o3, o4, o5, o6, o7⟩
  · obtain ⟨g1, hg1, W, hnx⟩ := I.heap
    have hkl : k = (hsOf P genv n ops).length := by
      have h1 := I.kle
      by_cases h2 : k < (hsOf P genv n ops).length
      · exfalso
        have hx := List.getElem?_eq_getElem h2
        obtain ⟨t, o', ht, h5, _, _⟩ := hardIdx_inv _ _ _ _ hx
        have hlt : t < ops.size := by
          have := (List.getElem?_eq_some_iff.1 h5).1
          rw [lOf_length] at this; exact this
        have := (I.hard k _ hx).1 (hall _ (by rw [ht]; simpa using hlt))
        omega
      · omega
    have hhc : hc (LOf P genv n ops) (LOf P genv n ops).length = (hsOf P genv n ops).length := by
      rw [LOf, dkinds_hc, dkinds_length, hsOf, hardIdx_length]
    have hnx' : s0.heap.next ≤ g1.next := by omega
    rw [Nat.zero_add, hhc, ← hkl, hg1] at o4
    cases o4
    have hts : ∀ t, tget (tsAt s0.tmps (LOf P genv n ops) vals (LOf P genv n ops).length) t = tget ts t := by
      intro t
      by_cases hw : ∃ (j : Nat) (q : DOper), (LOf P genv n ops)[j]? = some q ∧ q.o.dst = some t
      · obtain ⟨j, q, hj, hd⟩ := hw
        have hjl := (List.getElem?_eq_some_iff.1 hj).1
        obtain ⟨v, hv⟩ : ∃ v, vals[j]? = some v := ⟨vals[j]'(by omega), List.getElem?_eq_getElem (by omega)⟩
        rw [I.put j q t v (hall j (by omega)) hj hd hv]
        refine tsAt_put _ _ _ _ j q hjl hj hd hv (fun j' q' h1 h2 h3 h4 => ?_)
        have hjt : ops.toList[j]? = some (ops[j]'(by omega)) := by rw [Array.getElem?_toList]; simp
        have hjt' : ops.toList[j']? = some (ops[j']'(by omega)) := by rw [Array.getElem?_toList]; simp
        have e1 := LOf_get (P := P) (genv := genv) (n := n) hjt
        have e2 := LOf_get (P := P) (genv := genv) (n := n) hjt'
        rw [hj] at e1; rw [h3] at e2
        cases e1; cases e2
        exact (usesOk_get (D.uses j' _ (lOf_get hjt')) (lOf_get (P := P) (genv := genv) (n := n) hjt) hd (by omega)).1 h4
      · have hno : ∀ (j : Nat) (q : DOper), (LOf P genv n ops)[j]? = some q → q.o.dst ≠ some t := fun j q h1 h2 => hw ⟨j, q, h1, h2⟩
        rw [I.other t (fun j q _ h1 => hno j q h1)]
        exact tsAt_other _ _ _ _ (fun j q _ h1 => hno j q h1)
    unfold dregEnd at hans
    split at hans
    · cases hans
    · rw [o1] at hans
      simp only at hans
      cases hans
      rw [o3]
      exact ⟨_, _, rfl, a, m, w, cs, _, .one stepR_region_end, rfl, ⟨(I.tmps.same hts).keep keep, I.asz, I.defs⟩, W, I.kr, ⟨I.le, hnx', I.ext⟩⟩
  · exfalso
    have hp := (List.getElem?_eq_some_iff.1 o3).1
    have := I.ran vals.length (hall _ (by omega))
    omega

def noDst (l : List DOper) (t : Nat) : Bool := l.all fun o => match o.o.dst with | some d => (match Nat.beq d t with | true => false | false => true) | none => true
theorem tget_filter (l : List DOper) (t : Nat) : ∀ ts : Tmps, tget (tdrop l ts) t = if noDst l t = true then tget ts t else .unk := by
  intro ts
  induction ts with
  | nil => show AV.unk = _; split <;> rfl
  | cons p ts ih =>
    obtain ⟨k, v⟩ := p
    have hd : tdrop l ((k, v) :: ts) = if noDst l k = true then (k, v) :: tdrop l ts else tdrop l ts := by
      simp only [tdrop, List.filter_cons]
      rfl
    rw [hd]
    by_cases hk : k = t
    · subst hk
      split
      · rw [tget_cons, if_pos rfl, tget_cons, if_pos rfl]
      · rename_i h
        rw [ih, if_neg h]
    · split
      · rw [tget_cons, if_neg hk, ih, tget_cons, if_neg hk]
      · rw [ih, tget_cons, if_neg hk]
theorem tget_tdrop (l : List DOper) (ts : Tmps) (t : Nat) : tget (tdrop l ts) t = .unk ∨ (tget (tdrop l ts) t = tget ts t ∧ ∀ op ∈ l, op.o.dst ≠ some t) := by
  rw [tget_filter]
  by_cases h : noDst l t = true
  · rw [if_pos h]
    refine .inr ⟨rfl, fun op hop hd => ?_⟩
    have := List.all_eq_true.1 h op hop
    rw [hd] at this
    simp at this
  · rw [if_neg h]; exact .inl rfl

/-- The whole run, in whatever order. -/
theorem order_sound (hrec : SoundRec P genv B w₀ rec) (D : DOk P genv n ops) (LR : LexRun rec rd s0.defers s0.rc V s0.tmps (LOf P genv n ops) 0 s0.heap.next vals) {keep : Option (List Nat)} {ans : Ans}
    (O : Out rec rd s0.defers s0.rc V s0.tmps (LOf P genv n ops) 0 vals r) (hans : dregEnd (LOf P genv n ops) keep s0.tmps r = .ok ans) :
    ∀ (fuel t : Nat) {listed : Array Bool} {k : Nat} {m : Mem} {w : World} {a : Act} {cs : List Frame} {ts : Tmps}, FR m fn rd b → DInv P genv B w₀ n ops V vals s0 m0 b cs0 listed k m w a cs ts → unl ops.size listed ≤ fuel →
      LandsA P genv B w₀ n b cs0 kk s0.heap m0 (lone (b.atR a (.inRegion ops (Region.linearise.go .any ops fuel t listed []) :: kk)) cs w) ans := by
  intro fuel
  induction fuel with
  | zero =>
    intro t listed k m w a cs ts F I hu
    exact dfinish D O hans I (unl_zero (by omega)) (Nat.le_refl _)
  | succ fuel ih =>
    intro t listed k m w a cs ts F I hu
    have hgo : Region.linearise.go .any ops (fuel + 1) t listed [] = match (Region.ready .any ops listed)[t % (Region.ready .any ops listed).length]? with
        | some i => i :: Region.linearise.go .any ops fuel (t / (Region.ready .any ops listed).length) (listed.setIfInBounds i true) []
        | none => [] := by
      rw [Region.linearise.go]
      show (match (Region.ready .any ops listed)[t % (Region.ready .any ops listed).length]? with
        | some i => Region.linearise.go .any ops fuel (t / (Region.ready .any ops listed).length) (listed.setIfInBounds i true) [i]
        | none => [].reverse) = _
      split
      · rw [linearise_go_acc]; rfl
      · rfl
    rw [hgo]
    cases hx : (Region.ready .any ops listed)[t % (Region.ready .any ops listed).length]? with
    | none =>
      have hr : Region.ready .any ops listed = [] := by
        cases hl : Region.ready .any ops listed with
        | nil => rfl
        | cons x l =>
          rw [hl] at hx
          have := List.getElem?_eq_none_iff.1 hx
          have h2 := Nat.mod_lt t (show 0 < (x :: l).length by simp)
          omega
      exact dfinish D O hans I (all_listed D I hr) (Nat.le_refl _)
    | some i =>
      obtain ⟨h1, o, ho, he⟩ := mem_ready.1 (List.mem_of_getElem? hx)
      have hlt : i < ops.size := (Array.getElem?_eq_some_iff.1 ho).1
      have hni : listed.getD i false = false := by
        have : i < listed.size := by rw [I.size]; exact hlt
        simpa [this] using h1
      have hoL : ops.toList[i]? = some o := by simpa using ho
      have he' : ∀ e ∈ o.after.toList, Region.binds .any e = true → listed.getD e.on false = true := fun e hm => he e (by simpa using hm)
      by_cases hi : i < vals.length
      · obtain ⟨a', m', w', cs', ts', k', hst, I', hle⟩ := dstep_sound (kk := kk) (rest := Region.linearise.go .any ops fuel (t / (Region.ready .any ops listed).length) (listed.setIfInBounds i true) []) hrec D LR F I hoL hni he' hi
        have hu' := unl_set hlt I.size hni
        exact (ih _ (F.mono hle) I' (by omega)).head hst
      · rcases O with ⟨o1, o2, _⟩ | ⟨ch, g, g', op, o1, o2, o3, o4, o5, o6, o7⟩
        · exfalso
          rw [LOf_length] at o2
          omega
        · have hp := (List.getElem?_eq_some_iff.1 o3).1
          have hplt : vals.length < ops.size := by rw [LOf_length] at hp; exact hp
          have hpl : ops.toList[vals.length]? = some ops[vals.length] := by simp [hplt]
          have hopg := LOf_get (P := P) (genv := genv) (n := n) hpl
          rw [o3] at hopg
          have hK : KindOK op := dkinds_kind _ _ _ _ 0 D.bad op (List.mem_of_getElem? o3)
          have hoo : op.o = compOper P genv n ops ops[vals.length] := by
            simp only [Option.some.injEq] at hopg; rw [hopg]
          have hdk : op.k = dkOf (lOf P genv n ops).length (msOf ops) (hsOf P genv n ops) (compOper P genv n ops ops[vals.length]) vals.length := by
            simp only [Option.some.injEq] at hopg; rw [hopg]
          have hcls : op.o.cls = .hard := by unfold KindOK at hK; rw [o4] at hK; exact hK
          have hlast : ∀ j, vals.length < j → j < ops.size → bit (msOf ops) j vals.length = true := by
            rw [o4] at hdk
            unfold dkOf at hdk
            rw [← hoo, hcls] at hdk
            simp only [DK.hard.injEq] at hdk
            intro j hj1 hj2
            have := List.all_eq_true.1 hdk.symm j (by rw [List.mem_range'_1, lOf_length]; omega)
            exact this
          have hip : i = vals.length := by
            by_cases hgt : vals.length < i
            · exfalso
              have := I.ran _ (I.mask hoL he' _ (hlast i hgt hlt))
              omega
            · omega
          subst hip
          rw [hpl] at hoL
          cases hoL
          have A := I.agree D hpl hni he'
          rw [← hoo] at A
          obtain ⟨g1, hg1, W, hnx⟩ := I.heap
          -- the heap is the last
          have hhc : isHardC (compOper P genv n ops ops[vals.length]) = true := by rw [← hoo]; unfold isHardC; rw [hcls]
          have hr := hardIdx_get _ 0 vals.length _ (lOf_get (P := P) (genv := genv) (n := n) hpl) hhc
          rw [Nat.zero_add] at hr
          have hcr : hc (LOf P genv n ops) vals.length = hcl (lOf P genv n ops) vals.length := dkinds_hc _ _ _ _ _ _
          have hrk : hcl (lOf P genv n ops) vals.length = k := by
            have h1 : ¬ hcl (lOf P genv n ops) vals.length < k := fun hh => by
              have := (I.hard _ _ hr).2 hh
              rw [hni] at this; cases this
            by_cases h2 : k < hcl (lOf P genv n ops) vals.length
            · exfalso
              have hkl : k < (hsOf P genv n ops).length := Nat.lt_trans h2 (List.getElem?_eq_some_iff.1 hr).1
              have hb := chainOk_get D.chain k _ _ _ h2 (List.getElem?_eq_getElem hkl) hr
              have := (I.hard k _ (List.getElem?_eq_getElem hkl)).1 (I.mask hpl he' _ hb)
              omega
            · omega
          have hge : s0.heap.next ≤ g1.next := by omega
          rw [Nat.zero_add, hcr, hrk, hg1] at o5
          cases o5
          rcases stepOper_hard hcls o7 with ⟨v', h', h1', _⟩ | ⟨ch', h', h1', h2', h3'⟩
          · cases h1'
          · cases h1'
            injection h2' with _ _ _ e4
            subst e4
            have e := h3' ts A
            rw [hoo] at e
            have L := stepOper_sound (s := ⟨ts, s0.defers, s0.rc, _⟩) (k := kk) (rest := Region.linearise.go .any ops fuel (t / (Region.ready .any ops listed).length) (listed.setIfInBounds vals.length true) []) (cs := cs) (a := a) (n := n) (cs0 := cs0) hrec ho F ⟨I.tmps, I.asz, I.defs⟩ W I.kr e
            obtain ⟨a', m', w', cs', fr, q1, ⟨k1, ch'', q2, q2'⟩, q3, q4, q5, q6⟩ := L
            unfold dregEnd at hans
            split at hans
            · cases hans
            · rw [o1] at hans
              simp only at hans
              cases hans
              obtain ⟨tsx, hrs⟩ := o2
              rw [hrs]
              refine ⟨_, _, rfl, a', m', w', cs', fr, q1, ⟨k1, ch'', q2, q2'⟩, ⟨fun t => ?_, q3.size, q3.defers⟩, q4, q5, ⟨I.le.trans q6.le, Nat.le_trans hge q6.next, fun j hj => (q6.old j (Nat.lt_of_lt_of_le hj hge)).trans (I.ext j hj)⟩⟩
              show VR m' (tget (tdrop (LOf P genv n ops) s0.tmps) t) _
              rcases tget_tdrop (LOf P genv n ops) s0.tmps t with h | ⟨h, hno⟩
              · rw [h]; exact .unk _
              · rw [h, ← I.other t (fun j q _ hq => hno q (List.mem_of_getElem? hq))]
                exact q3.tmps t

theorem preHeap_next : ∀ (l : List DOper) (h : Heap), (preHeap l h).next = h.next + pc l l.length := by
  intro l
  induction l with
  | nil => intro h; rfl
  | cons o l ih =>
    intro h
    show _ = h.next + pc (o :: l) (l.length + 1)
    rw [pc_cons]
    obtain ⟨o, k⟩ := o
    cases k with
    | pre zero win =>
      have : preHeap (⟨o, .pre zero win⟩ :: l) h = preHeap l (h.push (.cells zero)) := rfl
      rw [this, ih]
      simp [isPreK]; omega
    | soft => exact (ih h).trans (by simp [isPreK])
    | look w => exact (ih h).trans (by simp [isPreK])
    | hard w => exact (ih h).trans (by simp [isPreK])

theorem dreg_sound (hrec : SoundRec P genv B w₀ rec) : DregSound P genv B w₀ rec := by
  intro n ops id kp fn rd s m w b a k cs0 cs ans F S W K e
  replace e : codeA rec fn rd (compDreg P ops.toList (lOf P genv n ops) (kp id)) s = .ok ans := e
  unfold compDreg at e
  simp only at e
  split at e
  · rename_i hc
    simp only [Bool.and_eq_true] at hc
    obtain ⟨hm, hd⟩ := hc
    replace e : dregA rec rd (LOf P genv n ops) (kp id) s = .ok ans := e
    have D : DOk P genv n ops := dregOk_spec hd
    obtain ⟨r, hr, e⟩ := R.bind_ok e
    have hro : recsOk r.vs.reverse r.rs = true := by
      unfold dregEnd at e
      split at e
      · cases e
      · assumption
    obtain ⟨⟨nv, nr, hvs, _⟩, vals, hL, hO⟩ := dops_lex (d := s.defers) (rc := s.rc) r.vs.reverse (LOf P genv n ops) s.heap.next (preHeap (LOf P genv n ops) s.heap) [] [] s.tmps r (dkinds_kind _ _ _ _ 0 D.bad) hr rfl hro
    obtain ⟨W1, _⟩ := W.preHeap (LOf P genv n ops)
    have hV0 : r.vs.reverse[0]? = some (preHeap (LOf P genv n ops) s.heap) := by rw [hvs]; simp
    have hf : ∀ i, (Array.replicate ops.size false).getD i false = false := fun i => by
      rw [Array.getD_eq_getD_getElem?, Array.getElem?_replicate]
      split <;> rfl
    have hno : ∀ i, ¬ (Array.replicate ops.size false).getD i false = true := fun i h => by rw [hf i] at h; cases h
    have I0 : DInv P genv B w₀ n ops r.vs.reverse vals s m b cs0 (Array.replicate ops.size false) 0 m w.drew a cs s.tmps :=
      { size := by simp
        closed := fun i o h => absurd h (hno i)
        kle := Nat.zero_le _
        hard := fun r i _ => ⟨fun h => absurd h (hno i), fun h => absurd h (Nat.not_lt_zero r)⟩
        ran := fun i h => absurd h (hno i)
        tmps := S.tmps
        put := fun i op t v h => absurd h (hno i)
        other := fun t _ => rfl
        asz := S.size
        defs := S.defers
        kr := K
        heap := ⟨_, hV0, W1.drew, by rw [preHeap_next]; exact Nat.le_refl _⟩
        ext := fun i _ => rfl
        le := .refl m
        fresh := fun i op _ _ _ => W.ρ_fresh _ (Nat.le_add_right _ _) }
    have hs : Region.schedule (P.follows .mixedOrders) ops (w.tape w.drawn (.order b.fn id)) = Region.linearise.go .any ops ops.size (w.tape w.drawn (.order b.fn id)) (Array.replicate ops.size false) [] := by
      rw [hm]; rfl
    have hstep := stepR_region_draw (P := P) (b := b) (a := a) (k := k) (cs := cs) (w := w) (ops := ops) (id := id)
    rw [hs] at hstep
    have hu : unl ops.size (Array.replicate ops.size false) ≤ ops.size := Nat.le_trans (List.length_filter_le _ _) (by simp)
    exact (order_sound (fn := fn) hrec D hL hO e ops.size _ F I0 hu).head (.one hstep)
  · cases e

/-- THE ABSTRACT MACHINE IS SOUND. -/
theorem am_sound {fns : Go.Am.F} (hF : FnsOK P genv fns) {orc : Orc} (hO : OrcOK P genv B w₀ orc) (n : Nat) : SoundRec P genv B w₀ (eval fns orc n) := eval_sound hF hO (fun _ h => dreg_sound h) n

end
end Go.Am
