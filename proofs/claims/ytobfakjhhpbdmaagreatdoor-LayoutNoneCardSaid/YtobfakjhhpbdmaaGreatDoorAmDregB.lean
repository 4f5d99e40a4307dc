/-
  REGIONS THAT DRAW THEIR ORDER: the run in the order of the text, operation by operation.
-/
import Derived.Test.YtobfakjhhpbdmaaGreatDoorAmDregA
namespace Go.Am

variable {rec : Task → R Ans} {rd : Option Nat} {d : List ADef} {rc : RC}

def isHardK (o : DOper) : Bool := match o.k with
  | .hard _ => true
  | _ => false
def isPreK (o : DOper) : Bool := match o.k with
  | .pre _ _ => true
  | _ => false
/-- How many hard ones, new variables, stand ahead. -/
def hc (l : List DOper) (i : Nat) : Nat := ((l.take i).filter isHardK).length
def pc (l : List DOper) (i : Nat) : Nat := ((l.take i).filter isPreK).length

def KindOK (o : DOper) : Prop := match o.k with
  | .soft => o.o.cls = .soft
  | .look _ => o.o.cls = .look
  | .hard _ => o.o.cls = .hard
  | .pre zero _ => o.o.cls = .pre zero

noncomputable def tsAt : Tmps → List DOper → List AV → Nat → Tmps
  | ts, op :: l, v :: vals, i + 1 => tsAt (tput op.o.dst v ts) l vals i
  | ts, _, _, _ => ts

/-- What is known of an operation that ran: its value, at the temporaries ts, behind k hard ones; q names the new variable. -/
def Fact (rec : Task → R Ans) (rd : Option Nat) (d : List ADef) (rc : RC) (V : List Heap) (op : DOper) (v : AV) (ts : Tmps) (k q : Nat) : Prop := match op.k with
  | .soft => ∃ g, lookVal ts g op.o = .ok v
  | .look win => ∀ j ∈ win, ∀ g, V[j]? = some g → lookVal ts g op.o = .ok v
  | .hard _ => ∃ g g', V[k]? = some g ∧ V[k + 1]? = some g' ∧ stepOper rec rd op.o ⟨ts, d, rc, g⟩ = .ok (.normal, ⟨tput op.o.dst v ts, d, rc, g'⟩)
  | .pre zero win => v = .ptr q 0 ∧ ∀ j ∈ win, ∀ g, V[j]? = some g → g.get q = some (.cells zero)

structure LexRun (rec : Task → R Ans) (rd : Option Nat) (d : List ADef) (rc : RC) (V : List Heap) (ts : Tmps) (l : List DOper) (k q : Nat) (vals : List AV) : Prop where
  fact : ∀ i v, vals[i]? = some v → ∃ op, l[i]? = some op ∧ Fact rec rd d rc V op v (tsAt ts l vals i) (k + hc l i) (q + pc l i)

theorem recsOk_mem {V : List Heap} : ∀ {l : List DRec}, recsOk V l = true → ∀ r ∈ l, recOk V r = true := by
  intro l
  induction l with
  | nil => intro _ r hr; cases hr
  | cons x l ih =>
    intro e r hr
    simp only [recsOk] at e
    split at e
    · rename_i h1
      cases hr with
      | head => exact h1
      | tail _ hr => exact ih e r hr
    · cases e
theorem allWin_mem {f : Nat → Bool} : ∀ {l : List Nat}, allWin f l = true → ∀ k ∈ l, f k = true := by
  intro l
  induction l with
  | nil => intro _ r hr; cases hr
  | cons x l ih =>
    intro e r hr
    simp only [allWin] at e
    split at e
    · rename_i h1
      cases hr with
      | head => exact h1
      | tail _ hr => exact ih e r hr
    · cases e

/-- How the run ends. -/
def Out (rec : Task → R Ans) (rd : Option Nat) (d : List ADef) (rc : RC) (V : List Heap) (ts : Tmps) (l : List DOper) (k : Nat) (vals : List AV) (r : DAns) : Prop :=
  (r.x = .normal ∧ vals.length = l.length ∧ (∃ g, r.s = ⟨tsAt ts l vals l.length, d, rc, g⟩ ∧ V[k + hc l l.length]? = some g) ∧ V.length = k + 1 + hc l l.length) ∨
  (∃ ch g g' op, r.x = .panic ch ∧ (∃ ts', r.s = ⟨ts', d, rc, g'⟩) ∧ l[vals.length]? = some op ∧ op.k = .hard true ∧ V[k + hc l vals.length]? = some g ∧ V.length = k + 1 + hc l vals.length ∧
    stepOper rec rd op.o ⟨tsAt ts l vals vals.length, d, rc, g⟩ = .ok (.panic ch, ⟨tsAt ts l vals vals.length, d, rc, g'⟩))

theorem hc_cons (o : DOper) (l : List DOper) (i : Nat) : hc (o :: l) (i + 1) = (if isHardK o then 1 else 0) + hc l i := by
  simp only [hc, List.take_succ_cons, List.filter_cons]
  split <;> simp <;> omega
theorem pc_cons (o : DOper) (l : List DOper) (i : Nat) : pc (o :: l) (i + 1) = (if isPreK o then 1 else 0) + pc l i := by
  simp only [pc, List.take_succ_cons, List.filter_cons]
  split <;> simp <;> omega

theorem dops_lex (V : List Heap) : ∀ (l : List DOper) (q : Nat) (h : Heap) (vs : List Heap) (rs : List DRec) (ts : Tmps) (r : DAns), (∀ o ∈ l, KindOK o) → dopsA rec rd l q (h :: vs) rs ⟨ts, d, rc, h⟩ = .ok r → V = r.vs.reverse → recsOk V r.rs = true →
    (∃ nv nr, r.vs = nv ++ (h :: vs) ∧ r.rs = nr ++ rs) ∧ ∃ vals, LexRun rec rd d rc V ts l vs.length q vals ∧ Out rec rd d rc V ts l vs.length vals r := by
  intro l
  induction l with
  | nil =>
    intro q h vs rs ts r _ e hV hR
    cases e
    refine ⟨⟨[], [], rfl, rfl⟩, [], ⟨fun i v hv => by simp at hv⟩, .inl ⟨rfl, rfl, ⟨h, rfl, ?_⟩, ?_⟩⟩
    · subst hV; simp [hc]
    · subst hV; simp [hc]
  | cons op l ih =>
    intro q h vs rs ts r hK e hV hR
    have hKo := hK op (by simp)
    have hKl : ∀ o ∈ l, KindOK o := fun o ho => hK o (by simp [ho])
    obtain ⟨o, kd⟩ := op
    -- the common step: a value, the same heap
    have same : ∀ (v : AV) (q' : Nat) (rs' : List DRec) (pk : Nat), dopsA rec rd l q' (h :: vs) rs' ⟨tput o.dst v ts, d, rc, h⟩ = .ok r → isHardK ⟨o, kd⟩ = false → (if isPreK ⟨o, kd⟩ then 1 else 0) = pk → q' = q + pk → (∃ x, rs' = x ++ rs) →
        ((∀ x ∈ rs', x ∈ r.rs) → Fact rec rd d rc V ⟨o, kd⟩ v ts vs.length q) →
        (∃ nv nr, r.vs = nv ++ (h :: vs) ∧ r.rs = nr ++ rs) ∧ ∃ vals, LexRun rec rd d rc V ts (⟨o, kd⟩ :: l) vs.length q vals ∧ Out rec rd d rc V ts (⟨o, kd⟩ :: l) vs.length vals r := by
      intro v q' rs' pk e hh hp hq hx hF
      obtain ⟨⟨nv, nr, h1, h2⟩, vals, hL, hO⟩ := ih q' h vs rs' _ r hKl e hV hR
      obtain ⟨x, hx⟩ := hx
      have hF := hF (fun y hy => by rw [h2]; exact List.mem_append_right _ hy)
      refine ⟨⟨nv, nr ++ x, h1, by rw [h2, hx, List.append_assoc]⟩, v :: vals, ⟨fun i u hu => ?_⟩, ?_⟩
      · cases i with
        | zero =>
          simp at hu
          subst hu
          exact ⟨_, rfl, by simpa [hc, pc, tsAt] using hF⟩
        | succ i =>
          obtain ⟨op, g1, g2⟩ := hL.fact i u (by simpa using hu)
          refine ⟨op, by simpa using g1, ?_⟩
          rw [hc_cons, pc_cons, hh, hp]
          rw [hq] at g2
          simpa [Nat.add_assoc, tsAt] using g2
      · rcases hO with ⟨o1, o2, ⟨g, o3, o4⟩, o5⟩ | ⟨ch, g, g', op, o1, o2, o3, o4, o5, o6, o7⟩
        · refine .inl ⟨o1, by simp [o2], ⟨g, o3, ?_⟩, ?_⟩
          · show V[vs.length + hc (⟨o, kd⟩ :: l) (l.length + 1)]? = some g
            rw [hc_cons, hh]; simpa using o4
          · show V.length = vs.length + 1 + hc (⟨o, kd⟩ :: l) (l.length + 1)
            rw [hc_cons, hh]; simpa using o5
        · refine .inr ⟨ch, g, g', op, o1, o2, by simpa using o3, o4, ?_, ?_, o7⟩
          · show V[vs.length + hc (⟨o, kd⟩ :: l) (vals.length + 1)]? = some g
            rw [hc_cons, hh]; simpa using o5
          · show V.length = vs.length + 1 + hc (⟨o, kd⟩ :: l) (vals.length + 1)
            rw [hc_cons, hh]; simpa using o6
    replace e : dstep rec rd o (dopsA rec rd l) q (h :: vs) rs ⟨ts, d, rc, h⟩ kd = .ok r := e
    cases kd with
    | soft =>
      obtain ⟨v, hv, e⟩ := R.bind_ok e
      exact same v q rs 0 e rfl rfl rfl ⟨[], rfl⟩ (fun _ => ⟨h, hv⟩)
    | look win =>
      obtain ⟨v, hv, e⟩ := R.bind_ok e
      refine same v q _ 0 e rfl rfl rfl ⟨[_], rfl⟩ (fun hm => ?_)
      have := recsOk_mem hR _ (hm (.look ts o v win) (by simp))
      intro j hj g hg
      have h1 := allWin_mem this j hj
      rw [nth_eq, hg] at h1
      simp only [lookSame] at h1
      split at h1
      · rename_i u hu
        rw [hu, avEq_eq _ _ _ h1]
      · cases h1
    | pre zero win =>
      refine same (.ptr q 0) (q + 1) _ 1 e rfl rfl rfl ⟨[_], rfl⟩ (fun hm => ⟨rfl, ?_⟩)
      have := recsOk_mem hR _ (hm (.pre q zero win) (by simp))
      intro j hj g hg
      have h1 := allWin_mem this j hj
      rw [nth_eq, hg] at h1
      simp only [preSame] at h1
      split at h1
      · rename_i cs hcs
        rw [hcs, ← allEq_eq (avEq_eq _) _ _ h1]
      · cases h1
    | hard last =>
      obtain ⟨⟨y, s'⟩, hs, e⟩ := R.bind_ok e
      rcases stepOper_hard hKo hs with ⟨v, h', rfl, rfl, _⟩ | ⟨ch, h', rfl, rfl, _⟩
      · replace e : dopsA rec rd l q (h' :: h :: vs) rs ⟨tput o.dst v ts, d, rc, h'⟩ = .ok r := e
        obtain ⟨⟨nv, nr, h1, h2⟩, vals, hL, hO⟩ := ih q h' (h :: vs) rs _ r hKl e hV hR
        refine ⟨⟨nv ++ [h'], nr, by rw [h1, List.append_assoc]; rfl, h2⟩, v :: vals, ⟨fun i u hu => ?_⟩, ?_⟩
        · cases i with
          | zero =>
            simp at hu
            subst hu
            refine ⟨_, rfl, h, h', ?_, ?_, by simpa [tsAt] using hs⟩
            · rw [hV, h1]; simp [hc]
            · rw [hV, h1]; simp [hc]
          | succ i =>
            obtain ⟨op, g1, g2⟩ := hL.fact i u (by simpa using hu)
            refine ⟨op, by simpa using g1, ?_⟩
            rw [hc_cons, pc_cons]
            simpa [isHardK, isPreK, Nat.add_assoc, tsAt] using g2
        · rcases hO with ⟨o1, o2, ⟨g, o3, o4⟩, o5⟩ | ⟨ch, g, g', op, o1, o2, o3, o4, o5, o6, o7⟩
          · refine .inl ⟨o1, by simp [o2], ⟨g, o3, ?_⟩, ?_⟩
            · show V[vs.length + hc (⟨o, .hard last⟩ :: l) (l.length + 1)]? = some g
              rw [hc_cons]; simpa [isHardK, Nat.add_assoc] using o4
            · show V.length = vs.length + 1 + hc (⟨o, .hard last⟩ :: l) (l.length + 1)
              rw [hc_cons]; simp only [isHardK, if_true]; simp only [List.length_cons] at o5; omega
          · refine .inr ⟨ch, g, g', op, o1, o2, by simpa using o3, o4, ?_, ?_, o7⟩
            · show V[vs.length + hc (⟨o, .hard last⟩ :: l) (vals.length + 1)]? = some g
              rw [hc_cons]; simpa [isHardK, Nat.add_assoc] using o5
            · show V.length = vs.length + 1 + hc (⟨o, .hard last⟩ :: l) (vals.length + 1)
              rw [hc_cons]; simp only [isHardK, if_true]; simp only [List.length_cons] at o6; omega
      · cases last with
        | false => cases e
        | true =>
          cases e
          refine ⟨⟨[], [], rfl, rfl⟩, [], ⟨fun i v hv => by simp at hv⟩, .inr ⟨ch, h, h', ⟨o, .hard true⟩, rfl, ⟨ts, rfl⟩, rfl, rfl, ?_, ?_, by simpa [tsAt] using hs⟩⟩
          · subst hV; simp [hc]
          · subst hV; simp [hc]

/-! ### Temporaries -/
theorem tsAt_other {t : Nat} : ∀ (l : List DOper) (vals : List AV) (ts : Tmps) (i : Nat), (∀ j op, j < i → l[j]? = some op → op.o.dst ≠ some t) → tget (tsAt ts l vals i) t = tget ts t := by
  intro l
  induction l with
  | nil => intro vals ts i _; cases vals <;> cases i <;> rfl
  | cons op l ih =>
    intro vals ts i hn
    cases vals with
    | nil => cases i <;> rfl
    | cons v vals =>
      cases i with
      | zero => rfl
      | succ i =>
        show tget (tsAt (tput op.o.dst v ts) l vals i) t = _
        rw [ih vals _ i (fun j o hj ho => hn (j + 1) o (by omega) (by simpa using ho))]
        have := hn 0 op (by omega) rfl
        cases hd : op.o.dst with
        | none => rfl
        | some e =>
          show tget ((e, v) :: ts) t = _
          rw [tget_cons, if_neg (fun hh => this (by rw [hd, hh]))]

theorem tsAt_put {t : Nat} {v : AV} : ∀ (l : List DOper) (vals : List AV) (ts : Tmps) (i j : Nat) (op : DOper), j < i → l[j]? = some op → op.o.dst = some t → vals[j]? = some v →
    (∀ j' op', j < j' → j' < i → l[j']? = some op' → op'.o.dst ≠ some t) → tget (tsAt ts l vals i) t = v := by
  intro l
  induction l with
  | nil => intro vals ts i j op _ h; simp at h
  | cons op l ih =>
    intro vals ts i j o hji ho hd hv hn
    cases vals with
    | nil => simp at hv
    | cons u vals =>
      cases i with
      | zero => omega
      | succ i =>
        show tget (tsAt (tput op.o.dst u ts) l vals i) t = v
        cases j with
        | zero =>
          simp at ho hv
          subst ho hv
          rw [tsAt_other l vals _ i (fun j' op' hj' ho' => hn (j' + 1) op' (by omega) (by omega) (by simpa using ho')), hd]
          show tget ((t, u) :: ts) t = u
          rw [tget_cons, if_pos rfl]
        | succ j =>
          exact ih vals _ i j o (by omega) (by simpa using ho) hd (by simpa using hv) (fun j' op' h1 h2 h3 => hn (j' + 1) op' (by omega) (by omega) (by simpa using h3))

end Go.Am
