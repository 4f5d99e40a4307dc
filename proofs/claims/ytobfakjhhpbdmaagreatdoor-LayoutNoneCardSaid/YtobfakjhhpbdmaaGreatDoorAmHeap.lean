/-
  LAWS OF THE ABSTRACT HEAP AND OF THE EVALUATOR'S SMALL FUNCTIONS.
-/
import Derived.Test.YtobfakjhhpbdmaaGreatDoorAmComp
namespace Go.Am

theorem T.get_leaf (k : Nat) : T.get .leaf k = none := rfl
theorem T.get_node_zero (v : Option AO) (l r : T) : T.get (.node v l r) 0 = v := rfl
theorem T.get_node_succ (v : Option AO) (l r : T) (k : Nat) : T.get (.node v l r) (k + 1) = if k % 2 = 0 then T.get l (k / 2) else T.get r (k / 2) := by
  show @Nat.rec (fun _ => Option AO) (T.get l (k / 2)) (fun _ _ => T.get r (k / 2)) (k % 2) = _
  rcases Nat.mod_two_eq_zero_or_one k with h | h <;> rw [h] <;> rfl

theorem T.setAux_node (o : Option AO) (fuel : Nat) (v : Option AO) (l r : T) (n : Nat) :
    T.setAux o (fuel + 1) (.node v l r) n = T.put o (T.setAux o fuel) v l r n := rfl
theorem T.setAux_leaf (o : Option AO) (fuel : Nat) (n : Nat) :
    T.setAux o (fuel + 1) .leaf n = T.put o (T.setAux o fuel) none .leaf .leaf n := rfl
theorem T.put_zero (o : Option AO) (ih : T → Nat → T) (v : Option AO) (l r : T) : T.put o ih v l r 0 = .node o l r := rfl
theorem T.put_succ (o : Option AO) (ih : T → Nat → T) (v : Option AO) (l r : T) (n : Nat) :
    T.put o ih v l r (n + 1) = if n % 2 = 0 then .node v (ih l (n / 2)) r else .node v l (ih r (n / 2)) := by
  show @Nat.rec (fun _ => T) (T.node v (ih l (n / 2)) r) (fun _ _ => T.node v l (ih r (n / 2))) (n % 2) = _
  rcases Nat.mod_two_eq_zero_or_one n with h | h <;> rw [h] <;> rfl

theorem T.get_put (o : Option AO) (ih : T → Nat → T) (v : Option AO) (l r : T) (n k : Nat)
    (hl : ∀ t m j, m < n → T.get (ih t m) j = if j = m then o else T.get t j) :
    T.get (T.put o ih v l r n) k = if k = n then o else T.get (.node v l r) k := by
  cases n with
  | zero =>
    rw [T.put_zero]
    cases k with
    | zero => simp [T.get_node_zero]
    | succ k => simp [T.get_node_succ]
  | succ n =>
    rw [T.put_succ]
    by_cases hn : n % 2 = 0
    · rw [if_pos hn]
      cases k with
      | zero => simp [T.get_node_zero]
      | succ k =>
        rw [T.get_node_succ, T.get_node_succ]
        by_cases hk : k % 2 = 0
        · rw [if_pos hk, if_pos hk, hl _ _ _ (by omega)]
          by_cases e : k = n
          · simp [e]
          · rw [if_neg (by omega), if_neg (by omega)]
        · rw [if_neg hk, if_neg hk, if_neg (by omega)]
    · rw [if_neg hn]
      cases k with
      | zero => simp [T.get_node_zero]
      | succ k =>
        rw [T.get_node_succ, T.get_node_succ]
        by_cases hk : k % 2 = 0
        · rw [if_pos hk, if_pos hk, if_neg (by omega)]
        · rw [if_neg hk, if_neg hk, hl _ _ _ (by omega)]
          by_cases e : k = n
          · simp [e]
          · rw [if_neg (by omega), if_neg (by omega)]

theorem T.get_setAux (o : Option AO) : ∀ (fuel : Nat) (t : T) (n k : Nat), n < fuel → T.get (T.setAux o fuel t n) k = if k = n then o else T.get t k := by
  intro fuel
  induction fuel with
  | zero => intro t n k h; omega
  | succ fuel ih =>
    intro t n k h
    have hl : ∀ t m j, m < n → T.get (T.setAux o fuel t m) j = if j = m then o else T.get t j := fun t m j hm => ih t m j (by omega)
    cases t with
    | leaf =>
      rw [T.setAux_leaf, T.get_put _ _ _ _ _ _ _ hl]
      cases k <;> simp [T.get_leaf, T.get_node_zero, T.get_node_succ]
    | node v l r => rw [T.setAux_node, T.get_put _ _ _ _ _ _ _ hl]

theorem Heap.get_eq (h : Heap) (i : Nat) : h.get i = if i < h.next then h.tree.get i else none := by
  unfold Heap.get
  by_cases hi : i < h.next
  · rw [if_pos hi]
    have : Nat.blt i h.next = true := by simp [Nat.blt_eq, hi]
    rw [this]
  · rw [if_neg hi]
    have : Nat.blt i h.next = false := by rw [Bool.eq_false_iff]; simp [Nat.blt_eq]; omega
    rw [this]

@[simp] theorem Heap.next_push (h : Heap) (o : AO) : (h.push o).next = h.next + 1 := rfl
@[simp] theorem Heap.next_set (h : Heap) (i : Nat) (o : AO) : (h.set i o).next = h.next := rfl

theorem Heap.get_push_new (h : Heap) (o : AO) : (h.push o).get h.next = some o := by
  rw [Heap.get_eq]; simp [Heap.push, T.get_setAux]
theorem Heap.get_push_old (h : Heap) (o : AO) (i : Nat) (hi : i < h.next) : (h.push o).get i = h.get i := by
  rw [Heap.get_eq, Heap.get_eq, if_pos hi, if_pos (by simp; omega)]
  simp only [Heap.push]
  rw [T.get_setAux _ _ _ _ _ (by omega), if_neg (by omega)]
theorem Heap.get_push (h : Heap) (o : AO) (i : Nat) : (h.push o).get i = if i = h.next then some o else h.get i := by
  by_cases e : i = h.next
  · subst e; rw [if_pos rfl, Heap.get_push_new]
  · rw [if_neg e]
    by_cases hi : i < h.next
    · exact Heap.get_push_old h o i hi
    · rw [Heap.get_eq, Heap.get_eq, if_neg hi, if_neg (by simp; omega)]
theorem Heap.get_set (h : Heap) (i : Nat) (o : AO) (j : Nat) (hi : i < h.next) : (h.set i o).get j = if j = i then some o else h.get j := by
  rw [Heap.get_eq, Heap.get_eq]
  by_cases hj : j < h.next
  · rw [if_pos hj, if_pos (by simpa using hj)]
    simp only [Heap.set]
    rw [T.get_setAux _ _ _ _ _ (by omega)]
  · rw [if_neg hj, if_neg (by simpa using hj), if_neg (by omega)]
theorem Heap.lt_of_get {h : Heap} {i : Nat} {o : AO} (hg : h.get i = some o) : i < h.next := by
  rw [Heap.get_eq] at hg
  by_cases hi : i < h.next
  · exact hi
  · simp [hi] at hg

/-! ### Temporaries -/
theorem tget_nil (t : Nat) : tget [] t = .unk := rfl
theorem tget_cons (k : Nat) (v : AV) (r : Tmps) (t : Nat) : tget ((k, v) :: r) t = if k = t then v else tget r t := by
  show @Bool.rec (fun _ => AV) (tget r t) v (Nat.beq k t) = _
  by_cases e : k = t
  · rw [if_pos e, show Nat.beq k t = true from by simp [Nat.beq_eq, e]]
  · rw [if_neg e, show Nat.beq k t = false from by rw [Bool.eq_false_iff]; simpa [Nat.beq_eq] using e]
theorem tget_keepR (ts : Tmps) (keep : List Nat) (t : Nat) : tget (keepR ts keep) t = tget ts t ∨ tget (keepR ts keep) t = .unk := by
  induction keep with
  | nil => exact .inr rfl
  | cons k r ih =>
    show tget ((k, tget ts k) :: keepR ts r) t = _ ∨ tget ((k, tget ts k) :: keepR ts r) t = _
    rw [tget_cons]
    by_cases e : k = t
    · rw [if_pos e, e]; exact .inl rfl
    · rw [if_neg e]; exact ih
theorem tget_tkeep (ts : Tmps) (keep : Option (List Nat)) (t : Nat) : tget (tkeep keep ts) t = tget ts t ∨ tget (tkeep keep ts) t = .unk := by
  cases keep with
  | none => exact .inl rfl
  | some k => exact tget_keepR ts k t

theorem nth_eq {α : Type} (l : List α) (n : Nat) : nth l n = l[n]? := by
  induction l generalizing n with
  | nil => rfl
  | cons a r ih =>
    cases n with
    | zero => rfl
    | succ n => rw [List.getElem?_cons_succ, ← ih n]; rfl

theorem evL_eq (ts : Tmps) (l : List Opd) : evL ts l = l.map (ev ts) := by
  induction l with
  | nil => rfl
  | cons x r ih => rw [List.map_cons, ← ih]; rfl

/-! ### Numbers -/
theorem ile_eq (a b : Int) : ile a b = decide (a ≤ b) := by
  rw [Bool.eq_iff_iff, decide_eq_true_iff]
  cases a <;> cases b <;> simp only [ile, Nat.ble_eq, Int.ofNat_eq_natCast] <;> (try simp) <;> (try omega)
theorem ilt_eq (a b : Int) : ilt a b = decide (a < b) := by
  unfold ilt; rw [ile_eq]
  by_cases h : b ≤ a
  · have h' : ¬ a < b := by omega
    simp [h, h']
  · have h' : a < b := by omega
    simp [h, h']
theorem ieq_eq (a b : Int) : ieq a b = decide (a = b) := by
  rw [Bool.eq_iff_iff, decide_eq_true_iff]
  cases a <;> cases b <;> simp only [ieq, Nat.beq_eq, Int.ofNat_eq_natCast] <;> (try simp) <;> (try omega)
theorem beqB_eq (a b : Bool) : beqB a b = (a == b) := by cases a <;> cases b <;> rfl
theorem bnot_eq (a : Bool) : bnot a = !a := by cases a <;> rfl

theorem ki_inj {j k : IntKind} (h : Nat.beq (ki j) (ki k) = true) : j = k := by
  cases j <;> cases k <;> first | rfl | (simp [ki] at h; done)

theorem wrap64_of (n : Int) (h1 : -9223372036854775808 ≤ n) (h2 : n < 9223372036854775808) : IntKind.wrap .i64 n = n := by
  have e1 : (2 : Int) ^ 64 = 18446744073709551616 := by decide
  have e2 : (2 : Int) ^ (64 - 1) = 9223372036854775808 := by decide
  simp only [IntKind.wrap, IntKind.bits, IntKind.signed, e1, e2, Bool.true_and, decide_eq_true_eq]
  split <;> omega
theorem wrap8_of (n : Int) (h1 : 0 ≤ n) (h2 : n < 256) : IntKind.wrap .u8 n = n := by
  have e1 : (2 : Int) ^ 8 = 256 := by decide
  simp only [IntKind.wrap, IntKind.bits, IntKind.signed, e1, Bool.false_and, Bool.false_eq_true, if_false]
  omega
theorem wr_eq (k : IntKind) (n : Int) : wr k n = k.wrap n := by
  cases k <;> try rfl
  · cases n with
    | ofNat m =>
      simp only [wr]
      cases h : Nat.ble m 9223372036854775807 with
      | true => rw [wrap64_of _ (by simp only [Int.ofNat_eq_natCast]; omega) (by have := Nat.le_of_ble_eq_true h; simp only [Int.ofNat_eq_natCast]; omega)]
      | false => rfl
    | negSucc m =>
      simp only [wr]
      cases h : Nat.ble m 9223372036854775807 with
      | true => rw [wrap64_of _ (by have := Nat.le_of_ble_eq_true h; omega) (by omega)]
      | false => rfl
  · cases n with
    | ofNat m =>
      simp only [wr]
      cases h : Nat.ble m 255 with
      | true => rw [wrap8_of _ (by simp only [Int.ofNat_eq_natCast]; omega) (by have := Nat.le_of_ble_eq_true h; simp only [Int.ofNat_eq_natCast]; omega)]
      | false => rfl
    | negSucc m => rfl

theorem bytesEq_eq (a b : List UInt8) : bytesEq a b = (a == b) := by
  induction a generalizing b with
  | nil => cases b <;> rfl
  | cons x r ih =>
    cases b with
    | nil => rfl
    | cons y s =>
      simp only [bytesEq]
      by_cases e : x = y
      · subst e
        have : Nat.beq x.toNat x.toNat = true := by simp
        rw [this]; simp [ih]
      · have : Nat.beq x.toNat y.toNat = false := by
          rw [Bool.eq_false_iff]; simp only [ne_eq, Nat.beq_eq]; exact fun h => e (UInt8.toNat_inj.1 h)
        rw [this]; simp [e]

theorem bytesLt_eq (a b : List UInt8) : bytesLt a b = Op.bytesLess a b := by
  induction a generalizing b with
  | nil => cases b <;> rfl
  | cons x r ih =>
    cases b with
    | nil => rfl
    | cons y s =>
      simp only [bytesLt, Op.bytesLess]
      by_cases h1 : x < y
      · have : Nat.blt x.toNat y.toNat = true := by rw [Nat.blt_eq]; exact UInt8.lt_iff_toNat_lt.1 h1
        rw [this]; simp [h1]
      · have : Nat.blt x.toNat y.toNat = false := by rw [Bool.eq_false_iff]; simp only [ne_eq, Nat.blt_eq]; exact fun h => h1 (UInt8.lt_iff_toNat_lt.2 h)
        rw [this]
        by_cases e : x = y
        · subst e; simp [ih]
        · have : Nat.beq x.toNat y.toNat = false := by
            rw [Bool.eq_false_iff]; simp only [ne_eq, Nat.beq_eq]; exact fun h => e (UInt8.toNat_inj.1 h)
          rw [this]; simp [h1, e]

end Go.Am
