/-
  EVERY OPERATION of the abstract machine against the model's.
-/
import Derived.Test.YtobfakjhhpbdmaaGreatDoorAmOpAll
namespace Go.Am
open Go.RowKit

variable {P : Program} {genv : Nat → Option (List AV)} {B : Nat} {w₀ : World} {h : Heap} {m : Mem} {w : World}

theorem run_newObj (o : Obj) : (newObj o).run P w = .ok w.heap.size (w.alloc o) := by simp [newObj, Sem.run]

theorem op_pick (W : WR P genv B w₀ h m w) {ts : Tmps} {a : Act} (T : TR m ts a.tmps) {nx : ONext} {c x y : Operand} (e : opA ts h (compOp P genv (.pick c x y)) = .ok nx) :
    NX P genv B w₀ h m w nx ((do pure (.value (if ← asBool (a.eval c) then a.eval x else a.eval y)) : Sem Next).run P w) := by
  have hc := opd_sound W T c
  have hx := opd_sound W T x
  have hy := opd_sound W T y
  simp only [compOp, opA, opO3, oPick] at e
  generalize ev ts (opd genv c) = b at hc e
  generalize a.eval c = u at hc ⊢
  split at e
  · cases hc; cases e; simp [asBool]; exact .same W hx
  · cases hc; cases e; simp [asBool]; exact .same W hy
  · cases e

theorem op_mkIf (W : WR P genv B w₀ h m w) {ts : Tmps} {a : Act} (T : TR m ts a.tmps) {nx : ONext} {t : TypeId} {x : Operand} (e : opA ts h (compOp P genv (.makeInterface t x)) = .ok nx) :
    NX P genv B w₀ h m w nx ((do pure (.value (← Instr.makeInterface t (a.eval x))) : Sem Next).run P w) := by
  obtain ⟨o, ho, e⟩ := orNone_ok e
  split at ho
  · cases ho
  · cases ho
  · rename_i d hd hu
    cases ho
    cases e
    refine nx_val W ?_ (.iface t _ _ (opd_sound W T x))
    unfold Instr.makeInterface
    rw [Sem.run_bind, und_run hu, Result.andThen_ok]
    cases d with
    | interface ms => exact absurd rfl (hd ms)
    | _ => rfl

theorem op_mkFn (W : WR P genv B w₀ h m w) {ts : Tmps} {a : Act} (T : TR m ts a.tmps) {nx : ONext} {fn : Fn} {x y : Array Operand} (e : opA ts h (compOp P genv (.makeFunc fn x y)) = .ok nx) :
    NX P genv B w₀ h m w nx ((do pure (.value (← Instr.makeFunc fn (x.map a.eval) (y.map a.eval))) : Sem Next).run P w) := by
  cases fn with
  | func f =>
    cases e
    refine nx_val W (v' := .func (.func f) (x.map a.eval) (y.map a.eval)) rfl ?_
    have h1 := opds_sound W T x.toList
    have h2 := opds_sound W T y.toList
    have e1 : x.map a.eval = (x.toList.map a.eval).toArray := by apply Array.ext'; simp
    have e2 : y.map a.eval = (y.toList.map a.eval).toArray := by apply Array.ext'; simp
    rw [e1, e2]
    exact .fn f _ _ _ _ h1.1 h1.2 h2.1 h2.2
  | _ => cases e

theorem op_mkMap (W : WR P genv B w₀ h m w) {ts : Tmps} {a : Act} {nx : ONext} {t : TypeId} {r : Option Operand} (e : opA ts h (compOp P genv (.makeMap t r)) = .ok nx) :
    NX P genv B w₀ h m w nx ((do pure (.value (← Instr.makeMap t (r.map a.eval))) : Sem Next).run P w) := by
  cases r with
  | some _ => cases e
  | none =>
    obtain ⟨o, ho, e⟩ := orNone_ok e
    split at ho
    · cases ho
      cases e
      refine nx_new ⟨.map (some w.heap.size), m.box h.next w.heap.size, w.alloc (.map #[] 0), ?_, .map _ _ (ρ_box _ _ _), W.newBox (.map [] 0) (.map #[] 0) (.map [] 0 #[] .nil), ext_newBox W _⟩
      simp only [Instr.makeMap, Option.map_none, Sem.run_bind, run_newObj, Result.andThen_ok]
      rfl
    · cases ho

theorem op_mkSlice (W : WR P genv B w₀ h m w) {ts : Tmps} {a : Act} (T : TR m ts a.tmps) {nx : ONext} {t : TypeId} {l c : Operand} (e : opA ts h (compOp P genv (.makeSlice t l c)) = .ok nx) :
    NX P genv B w₀ h m w nx ((do pure (.value (← Instr.makeSlice t (a.eval l) (a.eval c))) : Sem Next).run P w) := by
  obtain ⟨o, ho, e⟩ := orNone_ok e
  split at ho
  · rename_i et hd
    split at ho
    · rename_i n z i hn hz hi
      split at ho
      · rename_i hcond
        cases ho
        simp only [Bool.and_eq_true] at hcond
        obtain ⟨⟨c2, c3⟩, c4⟩ := hcond
        obtain ⟨v, h', v', m', w', rfl, k1, k2, k3, k4⟩ := mkSlice_sound W hd hn hz hi (Nat.le_of_ble_eq_true c2) (Nat.eq_of_beq_eq_true c3) (Nat.le_of_ble_eq_true c4) (opd_sound W T l) (opd_sound W T c) e
        exact nx_new ⟨v', m', w', k1, k2, k3, k4⟩
      · cases ho
    · cases ho
  · cases ho

theorem op_range (W : WR P genv B w₀ h m w) {ts : Tmps} {a : Act} (T : TR m ts a.tmps) {nx : ONext} {t : TypeId} {x : Operand} (e : opA ts h (compOp P genv (.range t x)) = .ok nx) :
    NX P genv B w₀ h m w nx ((do pure (.value (← Instr.range t (a.eval x))) : Sem Next).run P w) := by
  obtain ⟨o, ho, e⟩ := orNone_ok e
  split at ho
  · rename_i hd
    cases ho
    have hx := opd_sound W T x
    simp only [opA, opU2, oRange] at e
    generalize ev ts (opd genv x) = y at hx e
    generalize a.eval x = u at hx ⊢
    split at e
    · cases hx
      cases e
      rename_i s
      refine nx_new ⟨.pointer (some ⟨w.heap.size, 0, none⟩), m.box h.next w.heap.size, w.alloc (.stringIter ⟨s.toArray⟩ 0), ?_, .ptr _ _ _ (ρ_box _ _ _), W.newBox (.siter s 0) _ (.siter s 0), ext_newBox W _⟩
      simp only [Instr.range, Sem.run_bind, und_run hd, run_newObj, Result.andThen_ok, Sem.run_pure]
    · cases e
  · cases ho

theorem op_panic (W : WR P genv B w₀ h m w) {ts : Tmps} {a : Act} (T : TR m ts a.tmps) {nx : ONext} {x : Operand} (e : opA ts h (compOp P genv (.panic x)) = .ok nx) :
    NX P genv B w₀ h m w nx ((do pure (.value (← Instr.panic (a.eval x))) : Sem Next).run P w) := by
  have hx := opd_sound W T x
  simp only [compOp, opA, opU2, oPanic] at e
  generalize ev ts (opd genv x) = y at hx e
  generalize a.eval x = u at hx ⊢
  split at e
  · cases e
    cases hx
    rename_i k
    exact .panic (.iface _ _ _ k)
  · cases e

theorem op_insert (W : WR P genv B w₀ h m w) {ts : Tmps} {a : Act} (T : TR m ts a.tmps) {nx : ONext} {t : TypeId} {x k v : Operand} (e : opA ts h (compOp P genv (.insert t x k v)) = .ok nx) :
    NX P genv B w₀ h m w nx ((do Instr.mapUpdate t (a.eval x) (a.eval k) (a.eval v); pure .skip : Sem Next).run P w) := op_mapUpd W T e

/-- THE OPERATIONS. -/
theorem op_sound (W : WR P genv B w₀ h m w) {ts : Tmps} {a : Act} (T : TR m ts a.tmps) {nx : ONext} (o : Oper) (e : opA ts h (compOp P genv o.op) = .ok nx) :
    NX P genv B w₀ h m w nx ((execOp a.eval o).run P w) := by
  cases ho : o.op with
  | move x => rw [ho] at e; cases e; simp only [execOp, ho, Sem.run_pure]; exact .same W (opd_sound W T x)
  | assign x => rw [ho] at e; cases e; simp only [execOp, ho, Sem.run_pure]; exact .same W (opd_sound W T x)
  | pick c x y => rw [ho] at e; simp only [execOp, ho]; exact op_pick W T e
  | alloc t => rw [ho] at e; simp only [execOp, ho]; exact op_alloc W e
  | box t x => rw [ho] at e; simp only [execOp, ho]; exact op_box W T e
  | build t p => rw [ho] at e; simp only [execOp, ho]; exact op_build W T e
  | buildSlice t l p => rw [ho] at e; simp only [execOp, ho]; exact op_bslice W T e
  | load t x => rw [ho] at e; simp only [execOp, ho]; exact op_load W T e
  | store t x y => rw [ho] at e; simp only [execOp, ho]; exact op_store W T e
  | nilCheck x => exact op_nilchk W T ho (ho ▸ e)
  | binOp b t x y yt => rw [ho] at e; simp only [execOp, ho]; exact op_bin W T e
  | unOp u t x => rw [ho] at e; simp only [execOp, ho]; exact op_un W T e
  | convert s d x => rw [ho] at e; simp only [execOp, ho]; exact op_conv W T e
  | makeInterface t x => rw [ho] at e; simp only [execOp, ho]; exact op_mkIf W T e
  | makeFunc f x y => rw [ho] at e; simp only [execOp, ho]; exact op_mkFn W T e
  | makeMap t r => rw [ho] at e; simp only [execOp, ho]; exact op_mkMap W e
  | makeSlice t l c => rw [ho] at e; simp only [execOp, ho]; exact op_mkSlice W T e
  | slice t x lo hi mx => rw [ho] at e; simp only [execOp, ho]; exact op_slice W T e
  | fieldAddr t x f => rw [ho] at e; simp only [execOp, ho]; exact op_faddr W T e
  | field t x f => rw [ho] at e; simp only [execOp, ho]; exact op_field W T e
  | indexAddr t x i => rw [ho] at e; simp only [execOp, ho]; exact op_iaddr W T e
  | index t x i => rw [ho] at e; simp only [execOp, ho]; exact op_index W T e
  | lookup t x k ok => rw [ho] at e; simp only [execOp, ho]; exact op_lookup W T e
  | mapUpdate t x k v => rw [ho] at e; simp only [execOp, ho]; exact op_mapUpd W T e
  | insert t x k v => rw [ho] at e; simp only [execOp, ho]; exact op_insert W T e
  | range t x => rw [ho] at e; simp only [execOp, ho]; exact op_range W T e
  | next x s =>
    rw [ho] at e
    cases s with
    | false => cases e
    | true => simp only [execOp, ho]; exact op_next W T e
  | typeAssert x xt t ok => rw [ho] at e; simp only [execOp, ho]; exact op_tassert W T e
  | extract x i => rw [ho] at e; simp only [execOp, ho]; exact op_extract W T e
  | call c =>
    rw [ho] at e
    simp only [execOp, ho]
    cases hc : c.callee with
    | value f =>
      simp only [compOp, compCall, hc] at e
      exact op_callValue W T hc e
    | builtin b => exact op_builtin W T hc e
    | invoke i n => simp only [compOp, compCall, hc] at e; cases e
  | defer c => rw [ho] at e; simp only [execOp, ho]; exact op_defer W T e
  | panic x => rw [ho] at e; simp only [execOp, ho]; exact op_panic W T e
  | _ => rw [ho] at e; cases e

end Go.Am
