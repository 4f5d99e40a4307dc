/-
  FROM A RUN OF THE ABSTRACT MACHINE ON THE EMPTY HEAP TO 'Calls': a function of ground arguments that comes to a ground value.
-/
import Derived.Test.YtobfakjhhpbdmaaGreatDoorAmOrc
import Derived.Lib.LaidTab
namespace Go.Am
open Go.RowKit

def gval : AV → Value
  | .int k n => .int k n
  | .str s => .string ⟨s.toArray⟩
  | .bool b => .bool b
  | _ => undef
theorem VR_gval {m : Mem} {a : AV} (h : a.ground = true) : VR m a (gval a) := by
  cases a <;> first | (cases h; done) | constructor
theorem gval_of_VR {m : Mem} {a : AV} {u : Value} (h : a.ground = true) (r : VR m a u) : u = gval a := by
  cases r <;> first | (cases h; done) | rfl
theorem LR_gval {m : Mem} : ∀ {as : List AV}, as.all AV.ground = true → LR m as (as.map gval)
  | [], _ => LR.nil m
  | a :: as, h => by
    simp only [List.all_cons, Bool.and_eq_true] at h
    exact (LR_gval h.2).cons (VR_gval h.1)

/-- What is known where a law is called: the variables that never turn. -/
def gMem (genv : Nat → Option (List AV)) : Mem :=
  { ρ := fun _ => none, imm := fun b o => (genv b).bind fun cs => (cs.map gval)[o]?, own := fun _ => none, bsz := fun _ => 0 }

theorem WR.start {P : Program} {genv : Nat → Option (List AV)} {W : World} (hG : ∀ g cs, genv g = some cs → cs.all AV.ground = true)
    (hW : ∀ g cs, genv g = some cs → ∀ (i : Nat) v, (cs.map gval)[i]? = some v → W.cell? ⟨g, i, none⟩ = some v) : WR P genv W.heap.size W Heap.empty (gMem genv) W := by
  refine ⟨.refl _ _, Nat.le_refl _, fun i j b e => ?_, fun i b e => ?_, fun i b e => ?_, fun b o v e => ?_, fun i b o e => ?_, fun b t sz e => ?_, fun g cs e => ?_⟩
  · cases e
  · cases e
  · cases e
  · obtain ⟨cs, h1, h2⟩ := Option.bind_eq_some_iff.1 e
    exact hW b cs h1 o v h2
  · cases e
  · cases e
  · refine ⟨cs.map gval, LR_gval (hG g cs e), fun i v hv => ?_⟩
    show (genv g).bind _ = _
    rw [e, Nat.zero_add]
    exact hv

theorem calls_of_eval {P : Program} {genv : Nat → Option (List AV)} {fns : Go.Am.F} (hF : FnsOK P genv fns) {orc : Orc} (hO : OrcAll P genv orc) (hG : ∀ g cs, genv g = some cs → cs.all AV.ground = true)
    {n : Nat} {f : FuncId} {args : List AV} {v : AV} {h' : Heap} (he : eval fns orc n (.call f args .plain Heap.empty) = .ok (.call (.ret v) .plain h')) (hg : v.ground = true)
    {args' : Array Value} (hA : LR (gMem genv) args args'.toList) {W : World} (hW : ∀ g cs, genv g = some cs → ∀ (i : Nat) v, (cs.map gval)[i]? = some v → W.cell? ⟨g, i, none⟩ = some v) :
    Calls P f args' W fun e W' => e = .returned (gval v) ∧ Below W.heap.size W W' := by
  intro ks
  obtain ⟨x, rc', h1, hx, hcf, m', w', cs', fr, q1, q2, q3, q4, q5, q6, q7, q8, q9⟩ := am_sound (B := W.heap.size) (w₀ := W) hF (hO _ _) n _ _ he args' (gMem genv) W .normal ks ks hA (WR.start hG hW) (.plain rfl)
  cases hx
  obtain ⟨hmode, fn, v', hfn, hres, hv⟩ := q6
  cases q7 with
  | plain _ =>
    refine ⟨.returned v', w', fr, ⟨by rw [gval_of_VR hg hv], q8.below⟩, q1, q2, hmode, q4, q3, fn, ?_, hres⟩
    rw [q2]
    exact hfn

/-- A run that comes to a value, as a closed fact. -/
noncomputable def comesTo (f : AV → Bool) : R Ans → Bool
  | .ok (.call (.ret v) .plain _) => f v
  | _ => false
theorem comesTo_of {f : AV → Bool} {r : R Ans} (h : comesTo f r = true) : ∃ v h', r = .ok (.call (.ret v) .plain h') ∧ f v = true := by
  unfold comesTo at h
  split at h
  · exact ⟨_, _, rfl, h⟩
  · cases h
noncomputable def isTrueA : AV → Bool
  | .bool true => true
  | _ => false
theorem isTrueA_of {v : AV} (h : isTrueA v = true) : v = .bool true := by
  unfold isTrueA at h
  split at h
  · rfl
  · cases h

/-- What a run comes to, where it is a new array's slice of ground values. -/
noncomputable def runCells (len : Nat) : Option AO → Option (List AV)
  | some (.cells cs) => match Nat.ble len cs.length && (cs.take len).all AV.ground with
    | true => some (cs.take len)
    | false => none
  | _ => none
noncomputable def runSl : R Ans → Option (List AV)
  | .ok (.call (.ret (.arr id 0 len _)) .plain h) => runCells len (h.get id)
  | _ => none
theorem answers_of_runSl {P : Program} {genv : Nat → Option (List AV)} {fns : Go.Am.F} (hF : FnsOK P genv fns) {orc : Orc} (hO : OrcAll P genv orc) (hG : ∀ g cs, genv g = some cs → cs.all AV.ground = true) {n : Nat} {f : FuncId} {xs : List AV}
    (h : runSl (eval fns orc n (.call f [] .plain Heap.empty)) = some xs) : Answers P genv f (.sl .dead xs) := by
  unfold runSl at h
  split at h
  · rename_i id len cap hp he
    unfold runCells at h
    split at h
    · rename_i cs hc
      split at h
      · rename_i hb
        simp only [Bool.and_eq_true] at hb
        cases h
        exact orc_of_run hF hO hG he hc (Nat.le_of_ble_eq_true hb.1) hb.2
      · cases h
    · cases h
  · cases h
/-- What a run comes to, where it is true. -/
theorem answers_true {P : Program} {genv : Nat → Option (List AV)} {fns : Go.Am.F} (hF : FnsOK P genv fns) {orc : Orc} (hO : OrcAll P genv orc) (hG : ∀ g cs, genv g = some cs → cs.all AV.ground = true) {n : Nat} {f : FuncId}
    (h : comesTo isTrueA (eval fns orc n (.call f [] .plain Heap.empty)) = true) : Answers P genv f (.bool true) := by
  obtain ⟨v, h', he, hv⟩ := comesTo_of h
  cases isTrueA_of hv
  exact orc_of_ground hF hO hG he rfl

/-! ### A table of functions -/
inductive FT where
  | leaf
  | node (k : Nat) (a : AFn) (l r : FT)
noncomputable def FT.get (t : FT) (f : Nat) : Option AFn :=
  FT.rec none (fun k a _ _ ihl ihr => Bool.rec (Bool.rec ihr ihl (Nat.ble f k)) (some a) (Nat.beq f k)) t
def FT.All (p : Nat → AFn → Prop) : FT → Prop
  | .leaf => True
  | .node k a l r => p k a ∧ l.All p ∧ r.All p
theorem FT.get_all {p : Nat → AFn → Prop} {f : Nat} {a : AFn} : ∀ {t : FT}, t.All p → t.get f = some a → p f a := by
  intro t
  induction t with
  | leaf => intro _ h; cases h
  | node k b l r ihl ihr =>
    intro hp h
    obtain ⟨h1, h2, h3⟩ := hp
    have e : (FT.node k b l r).get f = Bool.rec (Bool.rec (r.get f) (l.get f) (Nat.ble f k)) (some b) (Nat.beq f k) := rfl
    rw [e] at h
    cases hb : Nat.beq f k with
    | true =>
      rw [hb] at h
      cases h
      rw [Nat.eq_of_beq_eq_true hb]
      exact h1
    | false =>
      rw [hb] at h
      cases hl : Nat.ble f k with
      | true => rw [hl] at h; exact ihl h2 h
      | false => rw [hl] at h; exact ihr h3 h
def FnOK (P : Program) (genv : Nat → Option (List AV)) (f : Nat) (a : AFn) : Prop :=
  ∃ fn kp, P.funcs[f]? = some fn ∧ compFn P genv kp fn = some a ∧ ∀ (args : Array Value) (w : World), (callFunc f args).run P w = .ok (.enter f args) w
theorem FnsOK.of_table {P : Program} {genv : Nat → Option (List AV)} {t : FT} (h : t.All (FnOK P genv)) : FnsOK P genv t.get := fun f a e => FT.get_all (p := FnOK P genv) h e
noncomputable def kpOf (l : List (Nat × List Nat)) (i : Nat) : Option (List Nat) :=
  some (List.rec [] (fun p _ ih => Bool.rec ih p.2 (Nat.beq p.1 i)) l)
noncomputable def gOne (g : Nat) (cs : List AV) : Nat → Option (List AV) := fun i => Bool.rec none (some cs) (Nat.beq i g)
theorem gOne_some {g : Nat} {cs : List AV} {i : Nat} {ds : List AV} (h : gOne g cs i = some ds) : i = g ∧ ds = cs := by
  unfold gOne at h
  cases hb : Nat.beq i g with
  | true => rw [hb] at h; cases h; exact ⟨Nat.eq_of_beq_eq_true hb, rfl⟩
  | false => rw [hb] at h; cases h

end Go.Am
