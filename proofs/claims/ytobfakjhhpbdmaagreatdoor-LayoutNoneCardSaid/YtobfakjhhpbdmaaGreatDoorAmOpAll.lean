/-
  EACH ABSTRACT OPERATION IS THE MODEL'S: the theorem over all of them.
-/
import Derived.Test.YtobfakjhhpbdmaaGreatDoorAmOp
namespace Go.Am
open Go.RowKit

variable {P : Program} {genv : Nat → Option (List AV)} {B : Nat} {w₀ : World} {h : Heap} {m : Mem} {w : World}

theorem op_slice (W : WR P genv B w₀ h m w) {ts : Tmps} {a : Act} (T : TR m ts a.tmps) {nx : ONext} {t : TypeId} {x : Operand} {lo hi mx : Option Operand} (e : opA ts h (compOp P genv (.slice t x lo hi mx)) = .ok nx) :
    NX P genv B w₀ h m w nx ((do pure (.value (← Instr.sliceAt t (a.eval x) (lo.map a.eval) (hi.map a.eval) (mx.map a.eval))) : Sem Next).run P w) := by
  have hx := opd_sound W T x
  have hlo := ovr_sound W T lo
  have hhi := ovr_sound W T hi
  have hmx := ovr_sound W T mx
  obtain ⟨o, ho, e⟩ := orNone_ok e
  split at ho
  · rename_i hu
    cases mx with
    | some _ => cases ho
    | none =>
      cases ho
      obtain ⟨v, hv, rfl⟩ := vl_ok e
      simp only [evO] at hv
      generalize ev ts (opd genv x) = y at hx hv
      generalize a.eval x = u at hx ⊢
      cases hx with
      | str s =>
        obtain ⟨v', h1, h2⟩ := slStr_sound (P := P) (m := m) (w := w) hu hlo hhi hv
        exact nx_val W h1 h2
      | _ => cases hv
  · rename_i et hu
    split at ho
    · rename_i n hn
      split at ho
      · cases ho
        obtain ⟨v, hv, rfl⟩ := vl_ok e
        generalize ev ts (opd genv x) = y at hx hv
        generalize a.eval x = u at hx ⊢
        cases y with
        | sl tk xs =>
          obtain ⟨v', h1, h2⟩ := slSl_sound (P := P) (m := m) (w := w) hu hn hx hlo hhi hmx hv
          exact nx_val W h1 h2
        | nilsl =>
          cases hx
          obtain ⟨v', h1, h2⟩ := slNil_sound (P := P) (m := m) (w := w) hu hn hlo hhi hmx hv
          exact nx_val W h1 h2
        | arr id off len cap =>
          cases hx with
          | arr _ _ _ _ b hb hlc =>
            obtain ⟨v', h1, h2⟩ := slArr_sound (P := P) (m := m) (w := w) hu hn hb hlc hlo hhi hmx hv
            exact nx_val W h1 h2
        | _ => cases hv
      · cases ho
    · cases ho
  · cases ho

theorem op_faddr (W : WR P genv B w₀ h m w) {ts : Tmps} {a : Act} (T : TR m ts a.tmps) {nx : ONext} {t : TypeId} {x : Operand} {f : Nat} (e : opA ts h (compOp P genv (.fieldAddr t x f)) = .ok nx) :
    NX P genv B w₀ h m w nx ((do pure (.value (← Instr.fieldAt t (a.eval x) f)) : Sem Next).run P w) := by
  obtain ⟨o, ho, e⟩ := orNone_ok e
  split at ho
  · rename_i fs hu
    split at ho
    · rename_i fd hf
      split at ho
      · rename_i hsz
        cases ho
        obtain ⟨v, hv, rfl⟩ := vl_ok e
        cases hn : sizeA P fd.type with
        | none => rw [hn] at hsz; cases hsz
        | some n =>
          rw [hn] at hsz
          have h1 : 1 ≤ n := Nat.le_of_ble_eq_true (by simpa using hsz)
          obtain ⟨v', h2, h3⟩ := faddr_sound (P := P) (m := m) (w := w) hu hf hn (by omega) (opd_sound W T x) hv
          exact nx_val W h2 h3
      · cases ho
    · cases ho
  · cases ho

theorem op_field (W : WR P genv B w₀ h m w) {ts : Tmps} {a : Act} (T : TR m ts a.tmps) {nx : ONext} {t : TypeId} {x : Operand} {f : Nat} (e : opA ts h (compOp P genv (.field t x f)) = .ok nx) :
    NX P genv B w₀ h m w nx ((do pure (.value (← Instr.field t (a.eval x) f)) : Sem Next).run P w) := by
  obtain ⟨o, ho, e⟩ := orNone_ok e
  split at ho
  · rename_i fs hu
    split at ho
    · rename_i fd hf
      obtain ⟨n, hn, rfl⟩ := Option.map_eq_some_iff.1 ho
      simp only [opA, opU1, oFld] at e
      split at e
      · rename_i cs hcs
        obtain ⟨v, hv, rfl⟩ := vl_ok e
        obtain ⟨v', h2, h3⟩ := fld_sound (P := P) (m := m) (w := w) hu hf hn (opd_sound W T x) hcs hv
        exact nx_val W h2 h3
      · cases e
    · cases ho
  · cases ho

theorem op_iaddr (W : WR P genv B w₀ h m w) {ts : Tmps} {a : Act} (T : TR m ts a.tmps) {nx : ONext} {t : TypeId} {x i : Operand} (e : opA ts h (compOp P genv (.indexAddr t x i)) = .ok nx) :
    NX P genv B w₀ h m w nx ((do pure (.value (← Instr.indexAt t (a.eval x) (a.eval i))) : Sem Next).run P w) := by
  obtain ⟨o, ho, e⟩ := orNone_ok e
  split at ho
  · rename_i et hu
    split at ho
    · rename_i n hn
      split at ho
      · cases ho
        obtain ⟨v, hv, rfl⟩ := vl_ok e
        obtain ⟨v', h2, h3⟩ := iaddrA_sound W hu hn (opd_sound W T x) (opd_sound W T i) hv
        exact nx_val W h2 h3
      · cases ho
    · cases ho
  · rename_i len et hu
    split at ho
    · rename_i n hn
      split at ho
      · cases ho
        obtain ⟨v, v', rfl, h2, h3⟩ := iaddrArr_sound (P := P) (w := w) (v := .unk) hu hn (opd_sound W T x) (opd_sound W T i) e
        exact nx_val W h2 h3
      · cases ho
    · cases ho
  · cases ho

theorem op_index (W : WR P genv B w₀ h m w) {ts : Tmps} {a : Act} (T : TR m ts a.tmps) {nx : ONext} {t : TypeId} {x i : Operand} (e : opA ts h (compOp P genv (.index t x i)) = .ok nx) :
    NX P genv B w₀ h m w nx ((do pure (.value (← Instr.index t (a.eval x) (a.eval i))) : Sem Next).run P w) := by
  obtain ⟨o, ho, e⟩ := orNone_ok e
  split at ho
  · rename_i hu
    cases ho
    obtain ⟨v, v', rfl, h2, h3⟩ := idxStr_sound (P := P) (w := w) hu (opd_sound W T x) (opd_sound W T i) e
    exact nx_val W h2 h3
  · rename_i len et hu
    split at ho
    · rename_i n q hn hq
      cases ho
      obtain ⟨v, v', rfl, h2, h3⟩ := idxArr_sound (P := P) (w := w) hu hn hq (opd_sound W T x) (opd_sound W T i) e
      exact nx_val W h2 h3
    · cases ho
  · cases ho

theorem op_lookup (W : WR P genv B w₀ h m w) {ts : Tmps} {a : Act} (T : TR m ts a.tmps) {nx : ONext} {t : TypeId} {x k : Operand} {ok : Bool} (e : opA ts h (compOp P genv (.lookup t x k ok)) = .ok nx) :
    NX P genv B w₀ h m w nx ((do pure (.value (← Instr.lookup t (a.eval x) (a.eval k) ok)) : Sem Next).run P w) := by
  obtain ⟨o, ho, e⟩ := orNone_ok e
  split at ho
  · rename_i kt et hu
    split at ho
    · rename_i kn z hk hz
      cases ho
      obtain ⟨i, zv, _, _, h1, h2⟩ := zeroA_spec (m := m) hz
      obtain ⟨v, v', rfl, h3, h4⟩ := lookup_sound W hu hk hz ⟨zv, h2 w, h1⟩ (opd_sound W T x) (opd_sound W T k) ok e
      exact nx_val W h3 h4
    · cases ho
  · cases ho

theorem op_mapUpd (W : WR P genv B w₀ h m w) {ts : Tmps} {a : Act} (T : TR m ts a.tmps) {nx : ONext} {t : TypeId} {x k v : Operand} (e : opA ts h (compOp P genv (.mapUpdate t x k v)) = .ok nx) :
    NX P genv B w₀ h m w nx ((do Instr.mapUpdate t (a.eval x) (a.eval k) (a.eval v); pure .skip : Sem Next).run P w) := by
  obtain ⟨o, ho, e⟩ := orNone_ok e
  split at ho
  · rename_i kt et hu
    obtain ⟨kn, hk, rfl⟩ := Option.map_eq_some_iff.1 ho
    obtain ⟨h', w', rfl, h1, h2, h3⟩ := mapUpd_sound W hu hk (opd_sound W T x) (opd_sound W T k) (opd_sound W T v) e
    simp only [Sem.run_bind, h1, Result.andThen_ok, Sem.run_pure]
    exact .skip (.heap m h3) h2
  · cases ho

theorem utf8_ascii (s : List UInt8) (pos : Nat) (b : UInt8) (hb : s[pos]? = some b) (h : b.toNat < 128) : Utf8.decode ⟨s.toArray⟩ pos = (b.toNat, 1) := by
  have hlt : pos < s.length := (List.getElem?_eq_some_iff.1 hb).1
  have hg : (⟨s.toArray⟩ : ByteArray).get! (pos + 0) = b := by
    rw [Nat.add_zero]
    have := (List.getElem?_eq_some_iff.1 hb).2
    simp [ByteArray.get!, hlt]
    simpa using this
  simp only [Utf8.decode, hg]
  rw [if_pos h]

theorem op_next (W : WR P genv B w₀ h m w) {ts : Tmps} {a : Act} (T : TR m ts a.tmps) {nx : ONext} {x : Operand} {str : Bool} {t : TypeId} (e : opA ts h (compOp P genv (.next x str)) = .ok nx) :
    NX P genv B w₀ h m w nx ((do pure (.value (← Instr.next (a.eval x) str t)) : Sem Next).run P w) := by
  cases str with
  | false => cases e
  | true =>
    have hx := opd_sound W T x
    simp only [compOp, opA, opU2, oNext] at e
    generalize ev ts (opd genv x) = y at hx e
    generalize a.eval x = u at hx ⊢
    split at e
    · rename_i id
      split at e
      · rename_i s pos hg
        cases hx with
        | ptr _ _ b hb =>
          obtain ⟨o, r, h1, h2, h3⟩ := W.obj id b hb
          rw [hg] at h1; cases h1
          cases h3 with
          | siter _ _ =>
            have hgo : (getObj b).run P w = .ok (.stringIter ⟨s.toArray⟩ pos) w := by simp [getObj, Sem.run, h2]
            have hso : ∀ o, (setObj b o).run P w = .ok () { w with heap := w.heap.setIfInBounds b o } := fun o => by simp [setObj, Sem.run, h2]
            have hsz : (⟨s.toArray⟩ : ByteArray).size = s.length := by simp [ByteArray.size]
            unfold oNextAt at e
            split at e
            · rename_i c hc
              rw [nth_eq] at hc
              split at e
              · rename_i hlt
                have hlt' : c.toNat < 128 := by simpa [Nat.blt_eq] using hlt
                cases e
                have hpos : pos < s.length := (List.getElem?_eq_some_iff.1 hc).1
                have hW := W.setObj hb (o := .siter s (pos + 1)) (r := .stringIter ⟨s.toArray⟩ (pos + 1)) h2 (fun n hh => by rw [hg] at hh; cases hh) (.siter _ _) (fun _ _ _ hh => by cases hh)
                have hrun : (Instr.next (.pointer (some ⟨b, 0, none⟩)) true t).run P w = .ok (.tuple #[.bool true, goInt pos, .int .i32 c.toNat]) { w with heap := w.heap.setIfInBounds b (.stringIter ⟨s.toArray⟩ (pos + 1)) } := by
                  simp only [Instr.next, Sem.run_bind, hgo, Result.andThen_ok, hsz, if_pos hpos, utf8_ascii s pos c hc hlt', hso, Sem.run_pure]
                simp only [Sem.run_bind, hrun, Result.andThen_ok, Sem.run_pure]
                exact .val (.heap m rfl) hW (.tup _ [.bool true, .int .i64 pos, .int .i32 c.toNat] rfl (LR.cons (.bool true) (LR.cons (.int _ _) (LR.one (.int _ _)))).2)
              · cases e
            · rename_i hc
              rw [nth_eq] at hc
              cases e
              have hpos : ¬ pos < s.length := by rw [List.getElem?_eq_none_iff] at hc; omega
              have hrun : (Instr.next (.pointer (some ⟨b, 0, none⟩)) true t).run P w = .ok (.tuple #[.bool false]) w := by
                simp only [Instr.next, Sem.run_bind, hgo, Result.andThen_ok, hsz, if_neg hpos, Sem.run_pure]
              exact nx_val W hrun (.tup _ [.bool false] rfl (LR.one (.bool false)).2)
      · cases e
    · cases e

theorem op_tassert (W : WR P genv B w₀ h m w) {ts : Tmps} {a : Act} (T : TR m ts a.tmps) {nx : ONext} {x : Operand} {xt t : TypeId} {ok : Bool} (e : opA ts h (compOp P genv (.typeAssert x xt t ok)) = .ok nx) :
    NX P genv B w₀ h m w nx ((do pure (.value (← Instr.typeAssert (a.eval x) xt t ok)) : Sem Next).run P w) := by
  cases ok with
  | false => cases e
  | true =>
    have hx := opd_sound W T x
    obtain ⟨o, ho, e⟩ := orNone_ok e
    split at ho
    · cases ho
    · cases ho
    · rename_i d h1 hd
      obtain ⟨z, hz, rfl⟩ := Option.map_eq_some_iff.1 ho
      obtain ⟨i, zv, _, _, hzv, hzr⟩ := zeroA_spec (m := m) hz
      simp only [opA, opU2, oTassert] at e
      generalize ev ts (opd genv x) = y at hx e
      generalize a.eval x = u at hx ⊢
      split at e
      · rename_i t' v
        cases hx with
        | iface _ _ v' hv =>
          cases e
          by_cases ht : t = t'
          · subst ht
            have hb : Nat.beq t t = true := by simp
            rw [hb]
            have hrun : (Instr.typeAssert (.iface t v') xt t true).run P w = .ok (.tuple #[v', .bool true]) w := by
              simp only [Instr.typeAssert, Sem.run_bind, und_run hd, Result.andThen_ok]
              cases d <;> first | (exact absurd rfl (h1 _)) | simp
            exact nx_val W hrun (.tup _ [v', .bool true] rfl (LR.cons hv (LR.one (.bool true))).2)
          · have hb : Nat.beq t t' = false := by rw [Bool.eq_false_iff]; simpa [Nat.beq_eq] using ht
            rw [hb]
            have ht2 : ¬ t' = t := fun hh => ht hh.symm
            have hrun : (Instr.typeAssert (.iface t' v') xt t true).run P w = .ok (.tuple #[zv, .bool false]) w := by
              simp only [Instr.typeAssert, Sem.run_bind, und_run hd, Result.andThen_ok]
              cases d <;> first | (exact absurd rfl (h1 _)) | simp [ht2, hzr]
            exact nx_val W hrun (.tup _ [zv, .bool false] rfl (LR.cons hzv (LR.one (.bool false))).2)
      · cases hx
        cases e
        have hrun : (Instr.typeAssert .nilIface xt t true).run P w = .ok (.tuple #[zv, .bool false]) w := by
          simp only [Instr.typeAssert, Sem.run_bind, und_run hd, Result.andThen_ok]
          cases d <;> first | (exact absurd rfl (h1 _)) | simp [hzr]
        exact nx_val W hrun (.tup _ [zv, .bool false] rfl (LR.cons hzv (LR.one (.bool false))).2)
      · cases e

theorem op_extract (W : WR P genv B w₀ h m w) {ts : Tmps} {a : Act} (T : TR m ts a.tmps) {nx : ONext} {x : Operand} {i : Nat} (e : opA ts h (compOp P genv (.extract x i)) = .ok nx) :
    NX P genv B w₀ h m w nx ((do pure (.value (← Instr.extract (a.eval x) i)) : Sem Next).run P w) := by
  have hx := opd_sound W T x
  simp only [compOp, opA, opU1, oExtract] at e
  generalize ev ts (opd genv x) = y at hx e
  generalize a.eval x = u at hx ⊢
  split at e
  · split at e
    · rename_i vs v hv
      cases hx with
      | tup _ us h1 h2 =>
        cases e
        rw [nth_eq] at hv
        obtain ⟨v', h3, h4⟩ := LR.get ⟨h1, h2⟩ hv
        exact nx_val W (by simp [Instr.extract, h3]) h4
    · cases e
  · cases e

/-! ### Calls -/
theorem fn_inv {f : FuncId} {first capt : List AV} {u : Value} (r : VR m (.fn f first capt) u) : ∃ fs cs, u = .func (.func f) fs.toArray cs.toArray ∧ LR m first fs ∧ LR m capt cs := by
  cases r with
  | fn _ _ _ fs cs h1 h2 h3 h4 => exact ⟨fs, cs, rfl, ⟨h1, h2⟩, ⟨h3, h4⟩⟩
theorem yield_inv {l : Nat} {u : Value} (r : VR m (.yield l) u) : ∃ b, u = .func (.yield b) #[] #[] ∧ m.ρ l = some b := by
  cases r with
  | yield _ b hb => exact ⟨b, rfl, hb⟩

theorem map_eval (a : Act) (xs : Array Operand) : (xs.map a.eval).toList = xs.toList.map a.eval := by simp

theorem op_callValue (W : WR P genv B w₀ h m w) {ts : Tmps} {a : Act} (T : TR m ts a.tmps) {nx : ONext} {c : Call} {f : Operand} {t : TypeId} (hc : c.callee = .value f)
    (e : opA ts h (.call (opd genv f) (c.args.toList.map (opd genv))) = .ok nx) :
    NX P genv B w₀ h m w nx ((do let d ← resolve a.eval c t; invoke d.target d.args : Sem Next).run P w) := by
  have hf := opd_sound W T f
  have hargs := opds_sound W T c.args.toList
  simp only [opA, oCall] at e
  simp only [resolve, hc]
  generalize ev ts (opd genv f) = y at hf e
  generalize a.eval f = u at hf ⊢
  split at e
  · rename_i g first capt
    cases e
    obtain ⟨fs, cs, rfl, h1, h2⟩ := fn_inv hf
    simp only [Deferred.ofValue, Sem.run_bind, Sem.run_pure, Result.andThen_ok, invoke]
    refine .enter ?_
    have : (fs.toArray ++ c.args.map a.eval ++ cs.toArray).toList = fs ++ c.args.toList.map a.eval ++ cs := by simp
    rw [this]
    exact (h1.append hargs).append h2
  · rename_i l
    cases e
    obtain ⟨b, rfl, hb⟩ := yield_inv hf
    simp only [Deferred.ofValue, Sem.run_bind, Sem.run_pure, Result.andThen_ok, invoke]
    refine .round hb ?_
    have : (#[] ++ c.args.map a.eval : Array Value).toList = c.args.toList.map a.eval := by simp
    rw [this]
    exact hargs
  · cases e

theorem op_defer (W : WR P genv B w₀ h m w) {ts : Tmps} {a : Act} (T : TR m ts a.tmps) {nx : ONext} {c : Call} {t : TypeId} (e : opA ts h (compOp P genv (.defer c)) = .ok nx) :
    NX P genv B w₀ h m w nx ((do pure (.defer (← resolve a.eval c t)) : Sem Next).run P w) := by
  unfold compOp at e
  simp only at e
  split at e
  · rename_i f hc
    have hf := opd_sound W T f
    have hargs := opds_sound W T c.args.toList
    simp only [opA, opO3, oDefer] at e
    simp only [resolve, hc]
    generalize ev ts (opd genv f) = y at hf e
    generalize a.eval f = u at hf ⊢
    split at e
    · rename_i g first capt
      cases e
      obtain ⟨fs, cs, rfl, h1, h2⟩ := fn_inv hf
      simp only [Deferred.ofValue, Sem.run_bind, Sem.run_pure, Result.andThen_ok]
      refine .defer ?_
      have : fs.toArray ++ c.args.map a.eval = (fs ++ c.args.toList.map a.eval).toArray := by apply Array.ext'; simp
      rw [this]
      exact .call _ _ _ _ ((h1.append hargs).append h2)
    · cases e
  · cases e

def LenT (P : Program) (t : TypeId) : LK → Prop
  | .str => P.underlying t = some .string
  | .sl => ∃ e, P.underlying t = some (.slice e)
  | .map => ∃ k e, P.underlying t = some (.map k e)

theorem len_sound (W : WR P genv B w₀ h m w) {x : AV} {x' : Value} (hx : VR m x x') {k : LK} {n : Nat} (e : lenA h k x = .ok n) {t ty : TypeId}
    (hu : LenT P t k) :
    (Builtin.len_ #[t] ty #[x']).run P w = .ok (goInt n) w := by
  cases k with
  | str =>
    cases hx <;> try (cases e; done)
    cases e
    rename_i s
    have hsz : (⟨s.toArray⟩ : ByteArray).size = s.length := by simp [ByteArray.size]
    have hd : P.underlying t = some .string := hu
    simp [Builtin.len_, und_run hd, hsz]
  | sl =>
    obtain ⟨et, hd⟩ := hu
    cases hx <;> try (cases e; done)
    all_goals (cases e; simp [Builtin.len_, und_run hd])
  | map =>
    obtain ⟨kt, et, hd⟩ := hu
    cases hx with
    | nilmap => cases e; simp [Builtin.len_, und_run hd]
    | map id b hb =>
      simp only [lenA] at e
      split at e
      · rename_i es c hg
        cases e
        obtain ⟨rs, h1, h2⟩ := mapObj W hb hg
        have hgo : (getObj b).run P w = .ok (.map rs c) w := by simp [getObj, Sem.run, h1]
        have := h2.length
        simp [Builtin.len_, und_run hd, hgo, this]
      · cases e
    | _ => cases e

theorem toList_two {α : Type} {a : Array α} {x y : α} (e : a.toList = [x, y]) : a = #[x, y] := Array.ext' e
theorem toList_one {α : Type} {a : Array α} {x : α} (e : a.toList = [x]) : a = #[x] := Array.ext' e

theorem op_builtin (W : WR P genv B w₀ h m w) {ts : Tmps} {a : Act} (T : TR m ts a.tmps) {nx : ONext} {c : Call} {b : Builtin} {t : TypeId} (hc : c.callee = .builtin b)
    (e : opA ts h (compCall P (opd genv) c) = .ok nx) :
    NX P genv B w₀ h m w nx ((do let d ← resolve a.eval c t; invoke d.target d.args : Sem Next).run P w) := by
  unfold compCall at e
  rw [hc] at e
  simp only at e
  simp only [resolve, hc, Sem.run_bind, Sem.run_pure, Result.andThen_ok, invoke]
  split at e
  · rename_i x t0 h1 h2
    have ha := toList_one h1
    have ht := toList_one h2
    have hx := opd_sound W T x
    obtain ⟨o, ho, e⟩ := orNone_ok e
    have fin : ∀ k, LenT P t0 k →
        opA ts h (.u1 (.len k) (opd genv x)) = .ok nx → NX P genv B w₀ h m w nx ((builtin .len c.argTypes t (c.args.map fun | .const _ => true | _ => false) (c.args.map a.eval)).run P w) := by
      intro k hk e
      obtain ⟨n, hn, e⟩ := R.bind_ok e
      cases e
      rw [ha, ht, show (#[x] : Array Operand).map a.eval = #[a.eval x] by simp]
      exact nx_val W (len_sound W hx hn hk) (.int _ _)
    split at ho
    · rename_i hd; cases ho; exact fin .str hd e
    · rename_i hd; cases ho; exact fin .sl ⟨_, hd⟩ e
    · rename_i hd; cases ho; exact fin .map ⟨_, _, hd⟩ e
    · cases ho
  · rename_i x t0 h1 h2
    have ha := toList_one h1
    have ht := toList_one h2
    have hx := opd_sound W T x
    obtain ⟨o, ho, e⟩ := orNone_ok e
    split at ho
    · rename_i et hd
      cases ho
      simp only [opA, opU2, oCap] at e
      rw [ha, ht]
      simp only [List.map_toArray, List.map_cons, List.map_nil]
      generalize ev ts (opd genv x) = y at hx e
      generalize a.eval x = u at hx ⊢
      split at e
      · cases hx with
        | sl _ xs vs b off cap sz h1 h2 h3 h4 h5 h6 h7 h8 =>
          cases e
          have := h7 rfl
          subst this
          exact nx_val W (by simp [Builtin.cap_, und_run hd]; rfl) (.int _ _)
      · cases hx; cases e
        exact nx_val W (by simp [Builtin.cap_, und_run hd]; rfl) (.int _ _)
      · cases hx; cases e
        exact nx_val W (by simp [Builtin.cap_, und_run hd]; rfl) (.int _ _)
      · cases e
    · cases ho
  · rename_i s x st xt h1 h2
    have ha := toList_two h1
    have ht := toList_two h2
    obtain ⟨o, ho, e2⟩ := orNone_ok e
    clear e
    split at ho
    · rename_i et hd
      split at ho
      · rename_i n z i hn hz hi
        split at ho
        · rename_i hcond
          cases ho
          simp only [Bool.and_eq_true] at hcond
          obtain ⟨⟨⟨c1, c2⟩, c3⟩, c4⟩ := hcond
          have hst : st = xt := Nat.eq_of_beq_eq_true c1
          subst hst
          obtain ⟨i', zv, hi', hzv, hzr, _⟩ := zeroCells_spec (m := m) hz
          obtain ⟨i2, hi2, hs2⟩ := sizeA_spec hn
          rw [hi] at hi' hi2
          cases hi'; cases hi2
          have hz0 : z.length = n := Nat.eq_of_beq_eq_true c3
          have hT : AppT P st et i zv := ⟨hd, hi, hzv, by rw [hs2]; exact Nat.le_of_ble_eq_true c2, by rw [hs2, ← hz0, hzr.1, Array.length_toList], Nat.le_of_ble_eq_true c4⟩
          obtain ⟨⟨v, h'⟩, hr, e3⟩ := R.bind_ok e2
          cases e3
          rw [← hs2] at hr
          rw [ha, ht, show (#[s, x] : Array Operand).map a.eval = #[a.eval s, a.eval x] by simp]
          exact nx_new (append_sound W hT (opd_sound W T s) (opd_sound W T x) hr)
        · cases ho
      · cases ho
    · cases ho
  · have hl := opds_sound W T c.args.toList
    have hm : (c.args.map a.eval).toList = c.args.toList.map a.eval := by rw [map_eval]
    simp only [opA, opO3, oMx] at e
    generalize hy : evL ts (c.args.toList.map (opd genv)) = ys at hl e
    cases ys with
    | nil => cases e
    | cons y r =>
      obtain ⟨u, us, hu, hyu, hr⟩ := hl.cons_inv
      obtain ⟨v, hv, rfl⟩ := vl_ok e
      obtain ⟨v', h2, h3⟩ := maxA_sound (P := P) (w := w) true r us y v u hyu hr hv
      refine nx_val W ?_ h3
      unfold Builtin.max_
      rw [hm, hu]
      exact h2
  · have hl := opds_sound W T c.args.toList
    have hm : (c.args.map a.eval).toList = c.args.toList.map a.eval := by rw [map_eval]
    simp only [opA, opO3, oMx] at e
    generalize hy : evL ts (c.args.toList.map (opd genv)) = ys at hl e
    cases ys with
    | nil => cases e
    | cons y r =>
      obtain ⟨u, us, hu, hyu, hr⟩ := hl.cons_inv
      obtain ⟨v, hv, rfl⟩ := vl_ok e
      obtain ⟨v', h2, h3⟩ := maxA_sound (P := P) (w := w) false r us y v u hyu hr hv
      refine nx_val W ?_ h3
      unfold Builtin.min_
      rw [hm, hu]
      exact h2
  · cases e; exact .recover
  · cases e

end Go.Am
