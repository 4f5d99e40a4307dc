/-
  EACH ABSTRACT OPERATION IS THE MODEL'S: equality, maps.
-/
import Derived.Test.YtobfakjhhpbdmaaGreatDoorAmOps4
import Derived.ChangeKeysEq
namespace Go.Am
open Go.RowKit

variable {P : Program} {genv : Nat → Option (List AV)} {B : Nat} {w₀ : World} {h : Heap} {m : Mem} {w : World}

/-- The type's kind, as it is compared. -/
def IsKind (P : Program) (t : TypeId) : SK → Prop
  | .bool => P.underlying t = some .bool
  | .int => ∃ k, P.underlying t = some (.int k)
  | .str => P.underlying t = some .string
  | .ptr => ∃ e, P.underlying t = some (.pointer e)
  | .sl => ∃ e, P.underlying t = some (.slice e)
  | .map => ∃ k e, P.underlying t = some (.map k e)
  | .fn => ∃ a b c, P.underlying t = some (.func a b c)
  | .iface => ∃ ms, P.underlying t = some (.interface ms)

theorem int_beq (a b : Int) : (a == b) = decide (a = b) := by rw [Bool.eq_iff_iff]; simp

theorem skEq_sound {t : TypeId} {k : SK} (hk : IsKind P t k) {a b : AV} {a' b' : Value} (ha : VR m a a') (hb : VR m b b') {r : Bool} (e : skEq k a b = .ok r) (d : Nat) :
    (Op.equalIn (d + 1) t a' b').run P w = .ok r w := by
  cases k with
  | bool =>
    cases ha <;> try (cases e; done)
    cases hb <;> try (cases e; done)
    cases e
    rw [run_equalIn_bool' w d t _ _ hk, beqB_eq]
  | int =>
    obtain ⟨q, hq⟩ := hk
    cases ha <;> try (cases e; done)
    cases hb <;> try (cases e; done)
    simp only [skEq] at e
    split at e
    · rename_i hh
      cases e
      have := ki_inj hh
      subst this
      rw [run_equalIn_int w d t _ _ _ _ hq, ieq_eq, int_beq]
    · cases e
  | str =>
    cases ha <;> try (cases e; done)
    cases hb <;> try (cases e; done)
    cases e
    rw [run_equalIn_string w d t _ _ hk]
    simp [bytesEq_eq]
  | ptr =>
    obtain ⟨q, hq⟩ := hk
    cases ha <;> cases hb <;> first | (cases e; done) | (cases e; simp only [Op.equalIn, Sem.run_bind, und_run hq, Result.andThen_ok]; rfl)
  | sl =>
    obtain ⟨q, hq⟩ := hk
    cases ha <;> cases hb <;> first | (cases e; done) | (cases e; simp only [Op.equalIn, Sem.run_bind, und_run hq, Result.andThen_ok]; rfl)
  | map =>
    obtain ⟨q, q2, hq⟩ := hk
    cases ha <;> cases hb <;> first | (cases e; done) | (cases e; simp only [Op.equalIn, Sem.run_bind, und_run hq, Result.andThen_ok]; rfl)
  | fn =>
    obtain ⟨q, q2, q3, hq⟩ := hk
    cases ha <;> cases hb <;> first | (cases e; done) | (cases e; simp only [Op.equalIn, Sem.run_bind, und_run hq, Result.andThen_ok]; rfl)
  | iface =>
    obtain ⟨q, hq⟩ := hk
    cases ha <;> cases hb <;> first | (cases e; done) | (cases e; simp only [Op.equalIn, Sem.run_bind, und_run hq, Result.andThen_ok]; rfl)

theorem scalar_spec {t : TypeId} {k : SK} (e : scalar P t = some k) : IsKind P t k ∧ ∀ w, (isAgg t).run P w = .ok false w := by
  unfold scalar at e
  split at e
  · rename_i hu hi
    split at e
    · cases e; exact ⟨hu, fun w => by simp [isAgg, und_run hu]⟩
    · cases e
  · rename_i q i hu hi
    split at e
    · cases e; exact ⟨⟨q, hu⟩, fun w => by simp [isAgg, und_run hu]⟩
    · cases e
  · rename_i hu hi
    split at e
    · cases e; exact ⟨hu, fun w => by simp [isAgg, und_run hu]⟩
    · cases e
  · cases e

theorem scalar_size {t : TypeId} {k : SK} (e : scalar P t = some k) : ∃ i, P.info? t = some i ∧ i.size = 1 := by
  unfold scalar at e
  split at e
  all_goals first
    | (cases e; done)
    | (split at e
       · rename_i hc; exact ⟨_, by assumption, Nat.eq_of_beq_eq_true hc⟩
       · cases e)

theorem part_scalar {t : TypeId} (ha : ∀ w, (isAgg t).run P w = .ok false w) {vs : List Value} {off : Nat} {v : Value} (e : vs[off]? = some v) : (part t vs.toArray off).run P w = .ok v w := by
  have : vs.toArray[off]? = some v := by simpa using e
  simp [part, ha, this]

theorem fields_sound : ∀ (fs : List Field) (i : Nat) (ks : List SK), flatFields P i fs = some ks → ∀ (xs ys : List AV) (us vs : List Value) (r : Bool) (d : Nat),
    LR m xs (us.drop i) → LR m ys (vs.drop i) → cellsEq ks xs ys = .ok r → (Op.eqFields (d + 1) us.toArray vs.toArray fs).run P w = .ok r w := by
  intro fs
  induction fs with
  | nil =>
    intro i ks e xs ys us vs r d hx hy hr
    cases e
    cases xs <;> cases ys <;> cases hr
    simp [Op.eqFields]
  | cons f fs ih =>
    intro i ks e xs ys us vs r d hx hy hr
    simp only [flatFields] at e
    split at e
    · rename_i hc
      obtain ⟨hn, ho⟩ := Bool.and_eq_true_iff.1 hc
      have hoff := Nat.eq_of_beq_eq_true ho
      have hname : f.name ≠ "_" := by simpa using hn
      split at e
      · rename_i k ks' hk hks
        cases e
        cases xs with
        | nil => cases ys <;> cases hr
        | cons x xs =>
          cases ys with
          | nil => cases hr
          | cons y ys =>
            obtain ⟨hkind, hagg⟩ := scalar_spec hk
            obtain ⟨u, us', hu, hxu, hx'⟩ := hx.cons_inv
            obtain ⟨v, vs', hv, hyv, hy'⟩ := hy.cons_inv
            have hui : us[i]? = some u := by
              have : (us.drop i)[0]? = some u := by rw [hu]; rfl
              simpa using this
            have hvi : vs[i]? = some v := by
              have : (vs.drop i)[0]? = some v := by rw [hv]; rfl
              simpa using this
            have hud : us.drop (i + 1) = us' := by rw [← List.drop_drop, hu]; rfl
            have hvd : vs.drop (i + 1) = vs' := by rw [← List.drop_drop, hv]; rfl
            obtain ⟨q, hq, hr⟩ := R.bind_ok hr
            have hp1 := part_scalar (w := w) hagg (off := f.offset) (hoff ▸ hui)
            have hp2 := part_scalar (w := w) hagg (off := f.offset) (hoff ▸ hvi)
            have he := skEq_sound (w := w) hkind hxu hyv hq d
            simp only [Op.eqFields, if_pos hname, Sem.run_bind, hp1, hp2, Result.andThen_ok, he]
            cases q with
            | true =>
              simp only [Bool.not_true, Bool.false_eq_true, if_false]
              exact ih (i + 1) ks' hks xs ys us vs r d (by rw [hud]; exact hx') (by rw [hvd]; exact hy') hr
            | false => cases hr; simp
      · cases e
    · cases e

theorem items_sound {et : TypeId} {k : SK} (hk : scalar P et = some k) : ∀ (n i : Nat) (xs ys : List AV) (us vs : List Value) (r : Bool) (d : Nat),
    LR m xs (us.drop i) → LR m ys (vs.drop i) → cellsEq (List.replicate n k) xs ys = .ok r → (Op.eqItems (d + 1) et (P.cellsOf et) us.toArray vs.toArray (List.range' i n)).run P w = .ok r w := by
  intro n
  obtain ⟨hkind, hagg⟩ := scalar_spec hk
  obtain ⟨inf, hinf, hsz⟩ := scalar_size hk
  have hc1 : P.cellsOf et = 1 := by simp [Program.cellsOf, hinf, hsz]
  induction n with
  | zero =>
    intro i xs ys us vs r d hx hy hr
    cases xs <;> cases ys <;> cases hr
    simp [Op.eqItems]
  | succ n ih =>
    intro i xs ys us vs r d hx hy hr
    rw [List.replicate_succ] at hr
    cases xs with
    | nil => cases ys <;> cases hr
    | cons x xs =>
      cases ys with
      | nil => cases hr
      | cons y ys =>
        obtain ⟨u, us', hu, hxu, hx'⟩ := hx.cons_inv
        obtain ⟨v, vs', hv, hyv, hy'⟩ := hy.cons_inv
        have hui : us[i]? = some u := by
          have : (us.drop i)[0]? = some u := by rw [hu]; rfl
          simpa using this
        have hvi : vs[i]? = some v := by
          have : (vs.drop i)[0]? = some v := by rw [hv]; rfl
          simpa using this
        have hud : us.drop (i + 1) = us' := by rw [← List.drop_drop, hu]; rfl
        have hvd : vs.drop (i + 1) = vs' := by rw [← List.drop_drop, hv]; rfl
        obtain ⟨q, hq, hr⟩ := R.bind_ok hr
        have hp1 := part_scalar (w := w) hagg (off := i * 1) (by simpa using hui)
        have hp2 := part_scalar (w := w) hagg (off := i * 1) (by simpa using hvi)
        have he := skEq_sound (w := w) hkind hxu hyv hq d
        rw [List.range'_succ]
        rw [hc1] at *
        simp only [Op.eqItems, Sem.run_bind, hp1, hp2, Result.andThen_ok, he]
        cases q with
        | true =>
          simp only [Bool.not_true, Bool.false_eq_true, if_false]
          exact ih (i + 1) xs ys us vs r d (by rw [hud]; exact hx') (by rw [hvd]; exact hy') hr
        | false => cases hr; simp

/-- A type whose values are compared so. -/
def EqT (P : Program) (t : TypeId) : EqK → Prop
  | .simple k => IsKind P t k
  | .cells ks => flatType P t = some ks

theorem aggEq_inv {ks : List SK} {a b : AV} {r : Bool} (e : aggEq ks a b = .ok r) : ∃ x y, a = .agg x ∧ b = .agg y ∧ cellsEq ks x y = .ok r := by
  unfold aggEq at e
  split at e
  · split at e
    · exact ⟨_, _, rfl, rfl, e⟩
    · cases e
  · cases e

theorem arr_equal {t et : TypeId} {n : Nat} {k : SK} (hu : P.underlying t = some (.array n et)) (hk : scalar P et = some k) {a b : AV} {a' b' : Value} (ha : VR m a a') (hb : VR m b b') {r : Bool}
    (e : aggEq (List.replicate n k) a b = .ok r) (d : Nat) : (Op.equalIn (d + 2) t a' b').run P w = .ok r w := by
  obtain ⟨x, y, rfl, rfl, e2⟩ := aggEq_inv e
  cases ha with
  | agg _ us h1 h2 =>
    cases hb with
    | agg _ vs h3 h4 =>
      obtain ⟨inf, hinf, _⟩ := scalar_size hk
      rw [run_equalIn_array w (d + 1) _ _ hu hinf, List.range_eq_range']
      exact items_sound (m := m) hk n 0 x y us vs r d ⟨h1, h2⟩ ⟨h3, h4⟩ e2

theorem eqA_sound {t : TypeId} {k : EqK} (hk : EqT P t k) {a b : AV} {a' b' : Value} (ha : VR m a a') (hb : VR m b b') {r : Bool} (e : eqA k a b = .ok r) (d : Nat) :
    (Op.equalIn (d + 2) t a' b').run P w = .ok r w := by
  cases k with
  | simple k => exact skEq_sound hk ha hb e (d + 1)
  | cells ks =>
    have hf : flatType P t = some ks := hk
    unfold flatType at hf
    split at hf
    · rename_i fs hu
      split at hf
      · rename_i hc
        obtain ⟨hs, _⟩ := Bool.and_eq_true_iff.1 hc
        obtain ⟨x, y, rfl, rfl, e2⟩ := aggEq_inv e
        cases ha with
        | agg _ us h1 h2 =>
          cases hb with
          | agg _ vs h3 h4 =>
            have hfo : P.fieldsOf t = fs := by unfold Program.fieldsOf; rw [hu]
            rw [run_equalIn_agg w (d + 1) t _ _ (by rw [hfo]; exact hu) (by simpa using hs), hfo]
            exact fields_sound (m := m) fs.toList 0 ks hf x y us vs r d ⟨h1, h2⟩ ⟨h3, h4⟩ e2
      · cases hf
    · rename_i n et hu
      split at hf
      · obtain ⟨k, hk2, rfl⟩ := Option.map_eq_some_iff.1 hf
        exact arr_equal hu hk2 ha hb e d
      · cases hf
    · cases hf

theorem eqK_spec {t : TypeId} {x y : Operand} {k : EqK} (e : eqK P t x y = some k) : EqT P t k ∧ (∀ q, k = .simple q → (q = .iface → (isConstO x || isConstO y) = true)) ∧ (∀ ks, k = .cells ks → P.eqGuardType P.depth t = false) := by
  have S : ∀ q : SK, q ≠ .iface → (∀ q', EqK.simple q = .simple q' → (q' = .iface → (isConstO x || isConstO y) = true)) ∧ (∀ ks, EqK.simple q = .cells ks → P.eqGuardType P.depth t = false) :=
    fun q hq => ⟨fun q' h1 h2 => by cases h1; exact absurd h2 hq, fun ks h1 => by cases h1⟩
  have C : ∀ ks, flatType P t = some ks → P.eqGuardType P.depth t = false := fun ks hks => by
    unfold flatType at hks
    split at hks
    · split at hks
      · rename_i hc; exact by simpa using (Bool.and_eq_true_iff.1 hc).2
      · cases hks
    · split at hks
      · rename_i hc; simpa using hc
      · cases hks
    · cases hks
  unfold eqK at e
  split at e
  · rename_i hu; cases e; exact ⟨hu, S .bool (by simp)⟩
  · rename_i hu; cases e; exact ⟨⟨_, hu⟩, S .int (by simp)⟩
  · rename_i hu; cases e; exact ⟨hu, S .str (by simp)⟩
  · rename_i hu; cases e; exact ⟨⟨_, hu⟩, S .ptr (by simp)⟩
  · rename_i hu; cases e; exact ⟨⟨_, hu⟩, S .sl (by simp)⟩
  · rename_i hu; cases e; exact ⟨⟨_, _, hu⟩, S .map (by simp)⟩
  · rename_i hu; cases e; exact ⟨⟨_, _, _, hu⟩, S .fn (by simp)⟩
  · rename_i hu
    split at e
    · rename_i hc; cases e; exact ⟨⟨_, hu⟩, fun q hq hi => hc, fun ks hks => by cases hks⟩
    · cases e
  · obtain ⟨ks, hks, rfl⟩ := Option.map_eq_some_iff.1 e
    exact ⟨hks, fun q hq => (by cases hq), fun ks' _ => C ks hks⟩
  · obtain ⟨ks, hks, rfl⟩ := Option.map_eq_some_iff.1 e
    exact ⟨hks, fun q hq => (by cases hq), fun ks' _ => C ks hks⟩
  · cases e

theorem eq_sound {t : TypeId} {x y : Operand} {k : EqK} (hk : eqK P t x y = some k) {a b : AV} {a' b' : Value} (ha : VR m a a') (hb : VR m b b') {r : Bool} (e : eqA k a b = .ok r) (neg : Bool) :
    (do eqGuard (if neg then .neq else .eql) t x y a' b'; binOp (if neg then .neq else .eql) t a' b').run P w = .ok (.bool (if neg then !r else r)) w := by
  obtain ⟨hT, hi, hg⟩ := eqK_spec hk
  have heq := eqA_sound (w := w) hT ha hb e 9998
  have hguard : (eqGuard (if neg then .neq else .eql) t x y a' b').run P w = .ok () w := by
    cases k with
    | simple q =>
      cases q <;> (cases ha <;> cases hb <;> first | (cases e; done) | (cases neg <;> simp [eqGuard]; done) | skip)
      -- two nil interfaces
      have hc := hi .iface rfl rfl
      cases neg <;> cases x <;> cases y <;> simp [eqGuard, isConstO] at hc ⊢
    | cells ks =>
      obtain ⟨p, q, rfl, rfl, _⟩ := aggEq_inv e
      cases ha with
      | agg _ us _ _ =>
        cases hb with
        | agg _ vs _ _ => exact run_eqGuard_agg w _ t x y _ _ (hg ks rfl)
  have hbin : (binOp (if neg then .neq else .eql) t a' b').run P w = .ok (.bool (if neg then !r else r)) w := by
    have h1 : (Op.equal t a' b').run P w = .ok r w := heq
    cases k with
    | simple q =>
      cases q
      case int =>
        cases ha <;> try (cases e; done)
        cases hb <;> try (cases e; done)
        simp only [eqA, skEq] at e
        split at e
        · rename_i hh
          cases e
          have := ki_inj hh
          subst this
          cases neg <;> simp [binOp, Op.intCmp, ieq_eq, bne, int_beq]
        · cases e
      case str =>
        cases ha <;> try (cases e; done)
        cases hb <;> try (cases e; done)
        cases e
        cases neg <;> simp [binOp, Op.stringOp, bytesEq_eq]
      all_goals (cases ha <;> cases hb <;> first | (cases e; done) | (cases neg <;> simp [binOp, h1]))
    | cells ks =>
      obtain ⟨p, q, rfl, rfl, _⟩ := aggEq_inv e
      cases ha with
      | agg _ us _ _ =>
        cases hb with
        | agg _ vs _ _ => cases neg <;> simp [binOp, h1]
  simp only [Sem.run_bind, hguard, Result.andThen_ok, hbin]

/-! ### Maps -/
theorem keyK_spec {t : TypeId} {k : EqK} (e : keyK P t = some k) :
    (∃ q, k = .simple q ∧ IsKind P t q ∧ (q = .bool ∨ q = .int ∨ q = .str)) ∨ (∃ n et q, k = .cells (List.replicate n q) ∧ P.underlying t = some (.array n et) ∧ scalar P et = some q) := by
  unfold keyK at e
  split at e
  · rename_i hu; cases e; exact .inl ⟨_, rfl, hu, .inl rfl⟩
  · rename_i hu; cases e; exact .inl ⟨_, rfl, ⟨_, hu⟩, .inr (.inl rfl)⟩
  · rename_i hu; cases e; exact .inl ⟨_, rfl, hu, .inr (.inr rfl)⟩
  · rename_i n et hu
    obtain ⟨q, hq, rfl⟩ := Option.map_eq_some_iff.1 e
    exact .inr ⟨n, et, q, rfl, hu, hq⟩
  · cases e

theorem key_equal {t : TypeId} {k : EqK} (hk : keyK P t = some k) {a b : AV} {a' b' : Value} (ha : VR m a a') (hb : VR m b b') {r : Bool} (e : eqA k a b = .ok r) : (Op.equal t a' b').run P w = .ok r w := by
  rcases keyK_spec hk with ⟨q, rfl, hq, _⟩ | ⟨n, et, q, rfl, hu, hq⟩
  · exact skEq_sound hq ha hb e 9999
  · exact arr_equal hu hq ha hb e 9998

theorem sameNow_sound {t : TypeId} {d : TypeDesc} {q : SK} (hd : P.underlying t = some d) (hq : IsKind P t q) (h3 : q = .bool ∨ q = .int ∨ q = .str) {a b : AV} {a' b' : Value} (ha : VR m a a') (hb : VR m b b') {r : Bool}
    (e : skEq q a b = .ok r) : Instr.sameNow d a' b' = some r := by
  rcases h3 with rfl | rfl | rfl
  · have hd' : d = .bool := by have h1 : P.underlying t = some .bool := hq; rw [hd] at h1; cases h1; rfl
    subst hd'
    cases ha <;> try (cases e; done)
    cases hb <;> try (cases e; done)
    cases e
    simp [Instr.sameNow, beqB_eq]
  · obtain ⟨k, h1⟩ := hq
    rw [hd] at h1; cases h1
    cases ha <;> try (cases e; done)
    cases hb <;> try (cases e; done)
    simp only [skEq] at e
    split at e
    · rename_i hh
      cases e
      have := ki_inj hh
      subst this
      simp [Instr.sameNow, ieq_eq, int_beq]
    · cases e
  · have hd' : d = .string := by have h1 : P.underlying t = some .string := hq; rw [hd] at h1; cases h1; rfl
    subst hd'
    cases ha <;> try (cases e; done)
    cases hb <;> try (cases e; done)
    cases e
    simp [Instr.sameNow, bytesEq_eq, beq_toListBytes]

/-- What a search for a key comes to. -/
def FoundR (m : Mem) : Option (Nat × AV) → Option (Nat × Value) → Prop
  | none, none => True
  | some (i, v), some (j, u) => i = j ∧ VR m v u
  | _, _ => False

theorem findNow_sound {t : TypeId} {d : TypeDesc} {q : SK} (hd : P.underlying t = some d) (hq : IsKind P t q) (h3 : q = .bool ∨ q = .int ∨ q = .str) {k : AV} {k' : Value} (hk : VR m k k') :
    ∀ (es : List (AV × AV × Nat)) (rs : List MapEntry) (i : Nat) (r : Option (Nat × AV)), EL m es rs → findKey (.simple q) k es i = .ok r → ∃ r', Instr.findNow d k' rs i = some r' ∧ FoundR m r r' := by
  intro es
  induction es with
  | nil => intro rs i r hE e; cases hE; cases e; exact ⟨none, rfl, trivial⟩
  | cons x es ih =>
    intro rs i r hE e
    cases hE with
    | cons h1 h2 h4 h5 =>
      rename_i ka va b en rs'
      obtain ⟨z, hz, e⟩ := R.bind_ok e
      have hs := sameNow_sound hd hq h3 hk h1 hz
      cases z with
      | true => cases e; exact ⟨some (i, en.val), by simp only [Instr.findNow, hs], rfl, h2⟩
      | false =>
        obtain ⟨r', h6, h7⟩ := ih rs' (i + 1) r h5 e
        exact ⟨r', by simp only [Instr.findNow, hs]; exact h6, h7⟩

theorem findAsking_sound {t : TypeId} {kn : EqK} (hkn : keyK P t = some kn) {k : AV} {k' : Value} (hk : VR m k k') :
    ∀ (es : List (AV × AV × Nat)) (rs : List MapEntry) (i : Nat) (r : Option (Nat × AV)), EL m es rs → findKey kn k es i = .ok r → ∃ r', (Instr.findAsking t k' rs i).run P w = .ok r' w ∧ FoundR m r r' := by
  intro es
  induction es with
  | nil => intro rs i r hE e; cases hE; cases e; exact ⟨none, rfl, trivial⟩
  | cons x es ih =>
    intro rs i r hE e
    cases hE with
    | cons h1 h2 h4 h5 =>
      rename_i ka va b en rs'
      obtain ⟨z, hz, e⟩ := R.bind_ok e
      have hs := key_equal (w := w) hkn hk h1 hz
      cases z with
      | true => cases e; exact ⟨some (i, en.val), by simp [Instr.findAsking, hs], rfl, h2⟩
      | false =>
        obtain ⟨r', h6, h7⟩ := ih rs' (i + 1) r h5 e
        exact ⟨r', by simp only [Instr.findAsking, Sem.run_bind, hs, Result.andThen_ok, Bool.false_eq_true, if_false]; exact h6, h7⟩

theorem findKey_sound {t : TypeId} {kn : EqK} (hkn : keyK P t = some kn) {k : AV} {k' : Value} (hk : VR m k k') {es : List (AV × AV × Nat)} {rs : List MapEntry} {r : Option (Nat × AV)} (hE : EL m es rs)
    (e : findKey kn k es 0 = .ok r) : ∃ r', (Instr.findKey t k' rs).run P w = .ok r' w ∧ FoundR m r r' := by
  rcases keyK_spec hkn with ⟨q, rfl, hq, h3⟩ | ⟨n, et, q, rfl, hu, hq⟩
  · have hd : ∃ d, P.underlying t = some d := by
      rcases h3 with rfl | rfl | rfl
      · exact ⟨_, hq⟩
      · exact ⟨_, hq.choose_spec⟩
      · exact ⟨_, hq⟩
    obtain ⟨d, hd⟩ := hd
    obtain ⟨r', h1, h2⟩ := findNow_sound hd hq h3 hk es rs 0 r hE e
    exact ⟨r', by simp only [Instr.findKey, Sem.run_bind, und_run hd, Result.andThen_ok, h1, Sem.run_pure], h2⟩
  · cases hE with
    | nil => cases e; exact ⟨none, by simp [Instr.findKey, und_run hu, Instr.findNow], trivial⟩
    | cons h1 h2 h4 h5 =>
      obtain ⟨r', h6, h7⟩ := findAsking_sound (w := w) hkn hk _ _ 0 r (.cons h1 h2 h4 h5) e
      exact ⟨r', by simp only [Instr.findKey, Sem.run_bind, und_run hu, Result.andThen_ok, Instr.findNow, Instr.sameNow]; exact h6, h7⟩

theorem check_scalar {t : TypeId} {k : SK} (hk : IsKind P t k) (h3 : k = .bool ∨ k = .int ∨ k = .str) (empty : Bool) (n : Nat) (v : Value) : (Instr.checkKey empty (n + 1) t v).run P w = .ok () w := by
  rcases h3 with rfl | rfl | rfl
  · have h1 : P.underlying t = some .bool := hk
    simp only [Instr.checkKey, Sem.run_bind, und_run h1, Result.andThen_ok]; rfl
  · obtain ⟨i, h1⟩ := hk
    simp only [Instr.checkKey, Sem.run_bind, und_run h1, Result.andThen_ok]; rfl
  · have h1 : P.underlying t = some .string := hk
    simp only [Instr.checkKey, Sem.run_bind, und_run h1, Result.andThen_ok]; rfl

theorem scalar_kind {t : TypeId} {k : SK} (e : scalar P t = some k) : k = .bool ∨ k = .int ∨ k = .str := by
  unfold scalar at e
  split at e
  all_goals first
    | (cases e; done)
    | (split at e
       · cases e; simp
       · cases e)

theorem check_array {t et : TypeId} {n : Nat} {inf : TypeInfo} (hu : P.underlying t = some (.array n et)) (hinf : P.info? et = some inf) (hsz : inf.size = 1) (hagg : ∀ w, (isAgg et).run P w = .ok false w) (empty : Bool) (D : Nat)
    (hD : ∀ v, (Instr.checkKey empty D et v).run P w = .ok () w) {us : List Value} (hlen : us.length = n) : (Instr.checkKey empty (D + 1) t (.agg us.toArray)).run P w = .ok () w := by
  simp only [Instr.checkKey, Sem.run_bind, und_run hu, Result.andThen_ok]
  simp only [Std.Legacy.Range.forIn_eq_forIn_range', Std.Legacy.Range.size, Nat.sub_zero, Nat.add_one_sub_one, Nat.div_one]
  have key : ∀ k i, i + k = n → ∀ (f : Nat → PUnit → Sem (ForInStep PUnit)), (∀ i, i < n → (f i PUnit.unit).run P w = .ok (ForInStep.yield PUnit.unit) w) → (forIn (List.range' i k) PUnit.unit f : Sem PUnit).run P w = .ok PUnit.unit w := by
    intro k
    induction k with
    | zero => intro i _ f _; simp
    | succ k ih =>
      intro i hi f hf
      rw [List.range'_succ, List.forIn_cons]
      simp only [Sem.run_bind, hf i (by omega), Result.andThen_ok]
      exact ih (i + 1) (by omega) f hf
  rw [key n 0 (by omega)]
  · rfl
  · intro i hi
    have hiu : i < us.length := by omega
    have hp := part_scalar (w := w) hagg (vs := us) (v := us[i]) (off := i * 1) (by rw [Nat.mul_one]; exact List.getElem?_eq_getElem hiu)
    simp only [Sem.run_bind, size_run hinf, Result.andThen_ok, hsz, hp, hD, Sem.run_pure]

theorem checkKey_sound {t : TypeId} {kn : EqK} (hkn : keyK P t = some kn) {k z : AV} {k' : Value} (hk : VR m k k') {r : Bool} (e : eqA kn k z = .ok r) (empty : Bool) :
    (Instr.checkKey empty 10000 t k').run P w = .ok () w := by
  rcases keyK_spec hkn with ⟨q, rfl, hq, h3⟩ | ⟨n, et, q, rfl, hu, hq⟩
  · exact check_scalar hq h3 empty 9999 k'
  · obtain ⟨x, y, rfl, rfl, e2⟩ := aggEq_inv e
    cases hk with
    | agg _ us h1 h2 =>
      obtain ⟨hkind, hagg⟩ := scalar_spec hq
      obtain ⟨inf, hinf, hsz⟩ := scalar_size hq
      have hlen : x.length = n := by
        unfold eqA aggEq at e
        simp only at e
        split at e
        · rename_i hc; have := Nat.eq_of_beq_eq_true (Bool.and_eq_true_iff.1 hc).1; simpa using this
        · cases e
      exact check_array hu hinf hsz hagg empty 9999 (fun v => check_scalar hkind (scalar_kind hq) empty 9998 v) (by omega)

theorem mapObj (W : WR P genv B w₀ h m w) {id b : Nat} {es : List (AV × AV × Nat)} {c : Nat} (hr : m.ρ id = some b) (hg : h.get id = some (.map es c)) :
    ∃ rs : Array MapEntry, w.heap[b]? = some (.map rs c) ∧ EL m es rs.toList := by
  obtain ⟨o, r, h1, h2, h3⟩ := W.obj id b hr
  rw [hg] at h1; cases h1
  cases h3 with
  | map _ _ rs hE => exact ⟨rs, h2, hE⟩

theorem EL.isEmpty {es : List (AV × AV × Nat)} {rs : List MapEntry} (hE : EL m es rs) : es = [] ↔ rs = [] := by cases hE <;> simp
theorem EL.length {es : List (AV × AV × Nat)} {rs : List MapEntry} (hE : EL m es rs) : es.length = rs.length := by
  induction hE with
  | nil => rfl
  | cons _ _ _ _ ih => simp [ih]

theorem lookup_sound (W : WR P genv B w₀ h m w) {t kt et : TypeId} {kn : EqK} {z : AV} (hu : P.underlying t = some (.map kt et)) (hkn : keyK P kt = some kn) (hz : zeroA P et = some z) (hzr : ∃ z', (zeroValue et).run P w = .ok z' w ∧ VR m z z')
    {x k : AV} {x' k' : Value} (hx : VR m x x') (hk : VR m k k') (ok : Bool) {nx : ONext} (hr : oLookup h kn z ok x k = .ok nx) :
    ∃ v v', nx = .val v h ∧ (Instr.lookup t x' k' ok).run P w = .ok v' w ∧ VR m v v' := by
  obtain ⟨q, hq, hr⟩ := R.bind_ok hr
  obtain ⟨es, hes, hr⟩ := R.bind_ok hr
  obtain ⟨r, hf, hr⟩ := R.bind_ok hr
  obtain ⟨z', hz', hzv⟩ := hzr
  cases hx with
  | nilmap =>
    cases hes
    cases hf
    cases hr
    have hck := checkKey_sound (w := w) hkn hk hq true
    obtain ⟨r', hr', hfr⟩ := findKey_sound (w := w) hkn hk (rs := []) .nil (show findKey kn k [] 0 = .ok none from rfl)
    cases r' with
    | some p => exact hfr.elim
    | none =>
      refine ⟨_, if ok then .tuple #[z', .bool false] else z', rfl, ?_, ?_⟩
      · cases ok <;> simp [Instr.lookup, und_run hu, hck, hr', hz']
      · cases ok
        · exact hzv
        · exact .tup _ [z', .bool false] rfl (LR.cons hzv (LR.one (.bool false))).2
  | map id b hb =>
    simp only [entriesA] at hes
    split at hes
    · rename_i es' c hg
      cases hes
      obtain ⟨rs, h1, hE⟩ := mapObj W hb hg
      have hgo : (getObj b).run P w = .ok (.map rs c) w := by simp [getObj, Sem.run, h1]
      obtain ⟨r', hr', hfr⟩ := findKey_sound (w := w) hkn hk hE hf
      have hck := checkKey_sound (w := w) hkn hk hq rs.isEmpty
      cases r with
      | none =>
        cases r' with
        | some p => exact hfr.elim
        | none =>
          cases hr
          refine ⟨_, if ok then .tuple #[z', .bool false] else z', rfl, ?_, ?_⟩
          · cases ok <;> simp [Instr.lookup, und_run hu, hgo, hck, hr', hz']
          · cases ok
            · exact hzv
            · exact .tup _ [z', .bool false] rfl (LR.cons hzv (LR.one (.bool false))).2
      | some p =>
        obtain ⟨i, v⟩ := p
        cases r' with
        | none => exact hfr.elim
        | some p' =>
          obtain ⟨j, u⟩ := p'
          obtain ⟨rfl, hvu⟩ := hfr
          cases hr
          refine ⟨_, if ok then .tuple #[u, .bool true] else u, rfl, ?_, ?_⟩
          · cases ok <;> simp [Instr.lookup, und_run hu, hgo, hck, hr']
          · cases ok
            · exact hvu
            · exact .tup _ [u, .bool true] rfl (LR.cons hvu (LR.one (.bool true))).2
    · cases hes
  | _ => cases hes

/-! ### A store into a map -/
theorem EL.append {es : List (AV × AV × Nat)} {rs : List MapEntry} {k v : AV} {e : MapEntry} (hE : EL m es rs) (h1 : VR m k e.key) (h2 : VR m v e.val) : EL m (es ++ [(k, v, e.born)]) (rs ++ [e]) := by
  induction hE with
  | nil => exact .cons h1 h2 rfl .nil
  | cons a b c _ ih => exact .cons a b c ih
theorem EL.set {es : List (AV × AV × Nat)} {rs : List MapEntry} {k v : AV} {k' v' : Value} (hE : EL m es rs) (h1 : VR m k k') (h2 : VR m v v') (i : Nat) :
    EL m (setEntry k v i es) (rs.modify i fun e => { e with key := k', val := v' }) := by
  induction hE generalizing i with
  | nil => cases i <;> exact .nil
  | cons a b c hE' ih =>
    cases i with
    | zero => exact .cons h1 h2 c hE'
    | succ i => exact .cons a b c (ih i)

theorem WR.setObj (W : WR P genv B w₀ h m w) {id b : Nat} (hr : m.ρ id = some b) {o : AO} {r r0 : Obj} (hb : w.heap[b]? = some r0) (hto : ∀ n, h.get id ≠ some (.tok n)) (hO : OR P genv m o r) (h0 : ∀ c e f, r0 ≠ .cells c e f) :
    WR P genv B w₀ (h.set id o) m { w with heap := w.heap.setIfInBounds b r } := by
  have hid := (W.lt id b hr).1
  have hheap : ∀ k, (w.heap.setIfInBounds b r)[k]? = if k = b then some r else w.heap[k]? := fun k => by
    by_cases e : k = b
    · subst e; rw [if_pos rfl]; simp [(W.lt id k hr).2.2]
    · rw [if_neg e, Array.getElem?_setIfInBounds_ne (fun hh => e hh.symm)]
  have hcell : ∀ c o, c ≠ b → ({ w with heap := w.heap.setIfInBounds b r } : World).cell? ⟨c, o, none⟩ = w.cell? ⟨c, o, none⟩ := fun c o hc => by
    apply cell?_of_heap
    show (w.heap.setIfInBounds b r)[c]? = _
    rw [hheap, if_neg hc]
  refine ⟨W.below.trans ⟨rfl, rfl, rfl, by simp, fun k hk => ?_⟩, by simpa using W.size, W.inj, fun i c hc => ?_, fun i c hc => ?_, fun c o v hv => ?_, W.apart, fun c t sz ho => ?_, W.glob⟩
  · show (w.heap.setIfInBounds b r)[k]? = _
    rw [hheap, if_neg (by have := (W.lt id b hr).2.1; omega)]
  · obtain ⟨h1, h2, h3⟩ := W.lt i c hc
    exact ⟨by simpa using h1, h2, by simpa using h3⟩
  · by_cases hi : i = id
    · subst hi
      rw [hr] at hc; cases hc
      exact ⟨o, r, by rw [Heap.get_set _ _ _ _ hid, if_pos rfl], by show (w.heap.setIfInBounds b r)[b]? = _; rw [hheap, if_pos rfl], hO⟩
    · have hcb : c ≠ b := fun hh => hi (W.inj i id b (hh ▸ hc) hr)
      obtain ⟨o', r', h1, h2, h3⟩ := W.obj i c hc
      exact ⟨o', r', by rw [Heap.get_set _ _ _ _ hid, if_neg hi]; exact h1, by show (w.heap.setIfInBounds b r)[c]? = _; rw [hheap, if_neg hcb]; exact h2, h3⟩
  · have hcb : c ≠ b := fun hh => by subst hh; rw [W.apart id c o hr] at hv; cases hv
    rw [hcell c o hcb]
    exact W.imm c o v hv
  · obtain ⟨h1, h2, h3, n, h4, h5, cs, e, h6, h7⟩ := W.own c t sz ho
    have htid : t ≠ id := fun hh => by subst hh; rw [h2] at hr; cases hr
    have hcb : c ≠ b := fun hh => h3 id (hh ▸ hr)
    exact ⟨h1, h2, h3, n, by rw [Heap.get_set _ _ _ _ hid, if_neg htid]; exact h4, h5, cs, e, by show (w.heap.setIfInBounds b r)[c]? = _; rw [hheap, if_neg hcb]; exact h6, h7⟩

theorem sameBits_key {t : TypeId} {kn : EqK} (hkn : keyK P t = some kn) {a b : AV} {a' b' : Value} (ha : VR m a a') (hb : VR m b b') (e : eqA kn a b = .ok true) : Instr.sameBits 10000 b' a' = true := by
  have sc : ∀ (q : SK), (q = .bool ∨ q = .int ∨ q = .str) → ∀ {a b : AV} {a' b' : Value}, VR m a a' → VR m b b' → skEq q a b = .ok true → ∀ n, Instr.sameBits n b' a' = true := by
    intro q h3 a b a' b' ha hb e n
    rcases h3 with rfl | rfl | rfl
    · cases ha <;> try (cases e; done)
      cases hb <;> try (cases e; done)
      rename_i x y
      simp only [skEq, beqB_eq, R.ok.injEq, beq_iff_eq] at e
      subst e
      cases n <;> simp [Instr.sameBits]
    · cases ha <;> try (cases e; done)
      cases hb <;> try (cases e; done)
      simp only [skEq] at e
      split at e
      · rename_i hh
        have := ki_inj hh
        subst this
        simp only [ieq_eq, R.ok.injEq, decide_eq_true_eq] at e
        subst e
        cases n <;> simp [Instr.sameBits]
      · cases e
    · cases ha <;> try (cases e; done)
      cases hb <;> try (cases e; done)
      simp only [skEq, bytesEq_eq, R.ok.injEq, beq_iff_eq] at e
      subst e
      cases n <;> simp [Instr.sameBits, beq_toListBytes]
  rcases keyK_spec hkn with ⟨q, rfl, hq, h3⟩ | ⟨n, et, q, rfl, hu, hq⟩
  · exact sc q h3 ha hb e 10000
  · obtain ⟨x, y, rfl, rfl, e2⟩ := aggEq_inv e
    cases ha with
    | agg _ us h1 h2 =>
      cases hb with
      | agg _ vs h3 h4 =>
        have key : ∀ (ks : List SK) (x y : List AV) (us vs : List Value), (∀ k ∈ ks, k = .bool ∨ k = .int ∨ k = .str) → LR m x us → LR m y vs → cellsEq ks x y = .ok true →
            vs.length = us.length ∧ ((vs.zip us).all fun (p, q) => Instr.sameBits 9999 p q) = true := by
          intro ks
          induction ks with
          | nil =>
            intro x y us vs _ hx hy e
            cases x <;> cases y <;> cases e
            rw [hx.nil_inv, hy.nil_inv]; exact ⟨rfl, rfl⟩
          | cons k ks ih =>
            intro x y us vs hks hx hy e
            cases x with
            | nil => cases y <;> cases e
            | cons x xs =>
              cases y with
              | nil => cases e
              | cons y ys =>
                obtain ⟨u, us', rfl, hxu, hx'⟩ := hx.cons_inv
                obtain ⟨v, vs', rfl, hyv, hy'⟩ := hy.cons_inv
                obtain ⟨r, hr, e⟩ := R.bind_ok e
                cases r with
                | false => cases e
                | true =>
                  obtain ⟨k1, k2⟩ := ih xs ys us' vs' (fun k hk => hks k (by simp [hk])) hx' hy' e
                  refine ⟨by simp [k1], ?_⟩
                  simp only [List.zip_cons_cons, List.all_cons, Bool.and_eq_true]
                  exact ⟨sc k (hks k (by simp)) hxu hyv hr 9999, k2⟩
        obtain ⟨k1, k2⟩ := key _ x y us vs (fun k hk => by rw [List.eq_of_mem_replicate hk]; exact scalar_kind hq) ⟨h1, h2⟩ ⟨h3, h4⟩ e2
        show Instr.sameBits (9999 + 1) (.agg vs.toArray) (.agg us.toArray) = true
        simp only [Instr.sameBits, List.size_toArray, List.toList_toArray, k1, beq_self_eq_true, Bool.true_and]
        exact k2

theorem findKey_found {kn : EqK} {k : AV} : ∀ (es : List (AV × AV × Nat)) (i0 i : Nat) (v : AV), findKey kn k es i0 = .ok (some (i, v)) → ∃ j, i = i0 + j ∧ ∃ ka b, es[j]? = some (ka, v, b) ∧ eqA kn k ka = .ok true := by
  intro es
  induction es with
  | nil => intro i0 i v e; cases e
  | cons x es ih =>
    intro i0 i v e
    obtain ⟨ka, va, b⟩ := x
    obtain ⟨z, hz, e⟩ := R.bind_ok e
    cases z with
    | true => cases e; exact ⟨0, rfl, ka, b, rfl, hz⟩
    | false =>
      obtain ⟨j, rfl, h1⟩ := ih _ _ _ e
      exact ⟨j + 1, by omega, h1⟩
theorem EL.get {es : List (AV × AV × Nat)} {rs : List MapEntry} (hE : EL m es rs) {j : Nat} {ka va : AV} {b : Nat} (e : es[j]? = some (ka, va, b)) : ∃ en, rs[j]? = some en ∧ VR m ka en.key := by
  induction hE generalizing j with
  | nil => simp at e
  | cons h1 h2 h3 _ ih =>
    cases j with
    | zero => simp at e; obtain ⟨rfl, rfl, rfl⟩ := e; exact ⟨_, rfl, h1⟩
    | succ j => exact ih (by simpa using e)

theorem mapUpd_sound (W : WR P genv B w₀ h m w) {t kt et : TypeId} {kn : EqK} (hu : P.underlying t = some (.map kt et)) (hkn : keyK P kt = some kn)
    {x k v : AV} {x' k' v' : Value} (hx : VR m x x') (hk : VR m k k') (hv : VR m v v') {nx : ONext} (hr : oMapUpd h kn x k v = .ok nx) :
    ∃ h' w', nx = .skip h' ∧ (Instr.mapUpdate t x' k' v').run P w = .ok () w' ∧ WR P genv B w₀ h' m w' ∧ h'.next = h.next := by
  cases hx with
  | map id b hb =>
    simp only [oMapUpd] at hr
    split at hr
    · rename_i es c hg
      obtain ⟨q, hq, hr⟩ := R.bind_ok hr
      obtain ⟨r, hf, hr⟩ := R.bind_ok hr
      obtain ⟨rs, h1, hE⟩ := mapObj W hb hg
      have hgo : (getObj b).run P w = .ok (.map rs c) w := by simp [getObj, Sem.run, h1]
      have hso : ∀ o, (setObj b o).run P w = .ok () { w with heap := w.heap.setIfInBounds b o } := fun o => by simp [setObj, Sem.run, h1]
      obtain ⟨r', hr', hfr⟩ := findKey_sound (w := w) hkn hk hE hf
      have hck := checkKey_sound (w := w) hkn hk hq false
      cases r with
      | none =>
        cases r' with
        | some p => exact hfr.elim
        | none =>
          cases hr
          refine ⟨_, _, rfl, ?_, W.setObj hb (o := .map (es ++ [(k, v, c)]) (c + 1)) (r := .map (rs.push { key := k', val := v', born := c }) (c + 1)) h1 (fun n hh => by rw [hg] at hh; cases hh) (.map _ _ _ ?_) (fun _ _ _ hh => by cases hh), rfl⟩
          · simp [Instr.mapUpdate, und_run hu, hgo, hck, hr', hso]
          · rw [Array.toList_push]
            exact hE.append (e := { key := k', val := v', born := c }) hk hv
      | some p =>
        obtain ⟨i, u⟩ := p
        cases r' with
        | none => exact hfr.elim
        | some p' =>
          obtain ⟨j, u'⟩ := p'
          obtain ⟨rfl, _⟩ := hfr
          cases hr
          obtain ⟨j, rfl, ka, bb, hes, heq⟩ := findKey_found _ _ _ _ hf
          obtain ⟨en, hen, hka⟩ := hE.get hes
          have hsame := sameBits_key hkn hk hka heq
          have hrs : rs[0 + j]? = some en := by rw [Nat.zero_add]; simpa using hen
          refine ⟨_, _, rfl, ?_, W.setObj hb (o := .map (setEntry k v (0 + j) es) c) (r := .map (rs.modify (0 + j) fun e => { e with key := k', val := v' }) c) h1 (fun n hh => by rw [hg] at hh; cases hh) (.map _ _ _ ?_) (fun _ _ _ hh => by cases hh), rfl⟩
          · simp only [Instr.mapUpdate, Sem.run_bind, und_run hu, Result.andThen_ok, hgo, hck, hr', hrs, Option.map_some, Option.getD_some, Instr.keyThatStays, hsame, if_true, Sem.run_pure, hso]
          · rw [Array.toList_modify]
            exact hE.set hk hv _
    · cases hr
  | _ => cases hr

end Go.Am
