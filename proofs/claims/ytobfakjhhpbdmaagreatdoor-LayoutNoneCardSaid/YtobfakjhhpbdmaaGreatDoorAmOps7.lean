/-
  EACH ABSTRACT OPERATION IS THE MODEL'S: slice literals, made slices, strings and bytes, numbers.
-/
import Derived.Test.YtobfakjhhpbdmaaGreatDoorAmOps6
namespace Go.Am
open Go.RowKit

variable {P : Program} {genv : Nat → Option (List AV)} {B : Nat} {w₀ : World} {h : Heap} {m : Mem} {w : World}

theorem elemsA_sound {ts : Tmps} {ρ : Operand → Value} {size : Nat} {op : Operand → Opd} (hop : ∀ x, VR m (ev ts (op x)) (ρ x)) : ∀ (qs : List (Nat × Operand)) (l : List AV), elemsA size ts (qs.map fun q => op q.2) = .ok l →
    l.length = qs.length ∧ (∀ x ∈ l, x.cells.length = size) ∧ (l.flatMap AV.cells).all AV.isCell = true ∧ LR m (l.flatMap AV.cells) (qs.flatMap fun q => (ρ q.2).cells.toList) ∧ ∀ q ∈ qs, (ρ q.2).cells.size = size := by
  intro qs
  induction qs with
  | nil => intro l e; cases e; exact ⟨rfl, by simp, rfl, LR.nil m, by simp⟩
  | cons q qs ih =>
    intro l e
    simp only [List.map_cons, elemsA] at e
    split at e
    · rename_i hc
      obtain ⟨h1, h2⟩ := Bool.and_eq_true_iff.1 hc
      obtain ⟨r, hr, e⟩ := R.bind_ok e
      cases e
      obtain ⟨i1, i2, i3, i4, i5⟩ := ih r hr
      have hu : ev ts (op q.2) ≠ .unk := by intro hh; rw [hh] at h2; cases h2
      have hvc := (hop q.2).cells hu
      have hlen := Nat.eq_of_beq_eq_true h1
      refine ⟨by simp [i1], ?_, ?_, ?_, ?_⟩
      · intro x hx
        rcases List.mem_cons.1 hx with rfl | hx
        · exact hlen
        · exact i2 x hx
      · rw [List.flatMap_cons, List.all_append, h2, i3]; rfl
      · rw [List.flatMap_cons, List.flatMap_cons]; exact hvc.append i4
      · intro p hp
        rcases List.mem_cons.1 hp with rfl | hp
        · rw [← hlen, hvc.1, Array.length_toList]
        · exact i5 p hp
    · cases e

theorem fill_seq {ρ : Operand → Value} {size : Nat} : ∀ (qs : List (Nat × Operand)) (j0 : Nat) (init : Array Value), (∀ (j : Nat) q, qs[j]? = some q → q.1 = j0 + j) → (∀ q ∈ qs, (ρ q.2).cells.size = size) →
    init.size = (j0 + qs.length) * size → ∃ rs : Array Value, Instr.fill (fun i => some (i * size, size)) init (qs.map fun (i, x) => (i, ρ x)) = some rs ∧ rs.toList = init.toList.take (j0 * size) ++ qs.flatMap fun q => (ρ q.2).cells.toList := by
  intro qs
  induction qs with
  | nil =>
    intro j0 init _ _ hs
    refine ⟨init, rfl, ?_⟩
    simp at hs ⊢
    rw [List.take_of_length_le (by simp; omega)]
  | cons q qs ih =>
    intro j0 init hj hsz hs
    obtain ⟨i, x⟩ := q
    have hi : i = j0 := by have := hj 0 _ rfl; simpa using this
    subst hi
    have hx := hsz (i, x) (by simp)
    simp only at hx
    have hmul : (i + (qs.length + 1)) * size = i * size + size + qs.length * size := by rw [Nat.add_mul, Nat.add_mul]; omega
    simp only [List.length_cons] at hs
    have hle : i * size + (ρ x).cells.size ≤ init.size := by rw [hx]; omega
    have hstep := fill_step (i * size) (ρ x).cells init hle
    have hlen : ((init.toList.take (i * size) ++ (ρ x).cells.toList ++ init.toList.drop (i * size + (ρ x).cells.size)).toArray : Array Value).size = (i + 1 + qs.length) * size := by
      simp
      rw [hx, Nat.add_mul, Nat.add_mul]
      omega
    obtain ⟨rs, h1, h2⟩ := ih (i + 1) _ (fun j q hq => by have := hj (j + 1) q (by simpa using hq); omega) (fun q hq => hsz q (by simp [hq])) hlen
    refine ⟨rs, ?_, ?_⟩
    · simp only [List.map_cons, Instr.fill]
      rw [if_neg (by simp [hx]; omega), hstep]
      exact h1
    · rw [h2, List.flatMap_cons]
      have hl1 : (init.toList.take (i * size) ++ (ρ x).cells.toList).length = (i + 1) * size := by
        simp [hx]
        rw [Nat.add_mul]; omega
      rw [List.toList_toArray, List.take_append_of_le_length (by omega), List.take_of_length_le (by omega)]
      simp

theorem bslice_sound (W : WR P genv B w₀ h m w) {ts : Tmps} {ρ : Operand → Value} {t et : TypeId} {n : Nat} {z : AV} {parts : Array (Nat × Operand)} {op : Operand → Opd} (hop : ∀ x, VR m (ev ts (op x)) (ρ x))
    (hu : P.underlying t = some (.slice et)) (hn : sizeA P et = some n) (hz : zeroA P et = some z) (h1 : 1 ≤ n) (h24 : parts.size * n ≤ 16777216) (hidx : ∀ (j : Nat) q, parts.toList[j]? = some q → q.1 = j)
    {l : List AV} (e : elemsA n ts (parts.toList.map fun q => op q.2) = .ok l) :
    ∃ v' m' w', (Instr.buildSlice t parts.size (parts.map fun (i, x) => (i, ρ x))).run P w = .ok v' w' ∧ VR m' (.sl .full l) v' ∧ WR P genv B w₀ h m' w' ∧ Ext h m h m' := by
  obtain ⟨inf, hinf, hs⟩ := sizeA_spec hn
  obtain ⟨i, zv, hi, hzv, hzr, hzrun⟩ := zeroA_spec (m := m) hz
  obtain ⟨k1, k2, k3, k4, k5⟩ := elemsA_sound hop parts.toList l e
  have hlen : parts.toList.length = parts.size := Array.length_toList
  have hpl : (parts.map fun (i, x) => (i, ρ x)).toList = parts.toList.map fun (i, x) => (i, ρ x) := by simp
  have h24' : ¬ (parts.size * n > 2 ^ 24) := by simp; omega
  -- whatever the cells held first
  have hfill : ∀ init : Array Value, init.size = parts.size * n → ∃ rs : Array Value, Instr.fill (fun i => some (i * n, n)) init (parts.toList.map fun (i, x) => (i, ρ x)) = some rs ∧ rs.toList = parts.toList.flatMap fun q => (ρ q.2).cells.toList := by
    intro init hinit
    obtain ⟨rs, r1, r2⟩ := fill_seq (ρ := ρ) (size := n) parts.toList 0 init (fun j q hq => by rw [hidx j q hq]; omega) k5 (by rw [hinit, hlen]; simp)
    exact ⟨rs, r1, by simpa using r2⟩
  have fin : ∀ rs : Array Value, rs.toList = (parts.toList.flatMap fun q => (ρ q.2).cells.toList) → VR (m.still w.heap.size rs.toList) (.sl .full l) (.slice (some ⟨w.heap.size, 0, none⟩) parts.size parts.size) ∧
      WR P genv B w₀ h (m.still w.heap.size rs.toList) (w.alloc (.cells rs et)) ∧ Ext h m h (m.still w.heap.size rs.toList) := by
    intro rs hrs
    have hE := ext_still W rs.toList
    refine ⟨?_, W.newStill rs et (0, 0) rs.toList (fun i v hv => by simpa using hv), hE⟩
    rw [← hlen, ← k1]
    refine .sl _ _ rs.toList _ 0 _ n k2 ?_ (fun i c v hc hv => ((hrs ▸ k4).mono hE.le).2 i c v hc hv) (fun i v hv => ?_) k3 (Nat.le_refl _) (fun _ => rfl) (fun t e hh => by cases hh)
    · rw [hrs]; exact k4.1
    · simp only [Mem.still, if_true, Nat.zero_add]; exact hv
  by_cases h0 : parts.size * n = 0
  · obtain ⟨rs, r1, r2⟩ := hfill #[] (by simp [h0])
    obtain ⟨f1, f2, f3⟩ := fin rs r2
    refine ⟨_, _, _, ?_, f1, f2, f3⟩
    have hr0 : ((Array.range (parts.size * n)).map ((#[] : Array Value)[· % (#[] : Array Value).size]!)) = #[] := Array.eq_empty_of_size_eq_zero (by simp [h0])
    simp only [Instr.buildSlice, Sem.run_bind, und_run hu, Result.andThen_ok, size_run hinf, hs, if_neg h24', if_pos h0, Sem.run_pure, hpl, hr0, r1, newRow, run_newObj, World.alloc_eq]
  · obtain ⟨rs, r1, r2⟩ := hfill ((Array.range (parts.size * n)).map (zv.cells[· % zv.cells.size]!)) (by simp)
    obtain ⟨f1, f2, f3⟩ := fin rs r2
    refine ⟨_, _, _, ?_, f1, f2, f3⟩
    simp only [Instr.buildSlice, Sem.run_bind, und_run hu, Result.andThen_ok, size_run hinf, hs, if_neg h24', if_neg h0, hzrun, Sem.run_pure, hpl, r1, newRow, run_newObj, World.alloc_eq]

/-! ### Strings and bytes -/
theorem flat_ints (s : List UInt8) : (s.map fun b => (AV.int .u8 b.toNat)).flatMap AV.cells = s.map fun b => (AV.int .u8 b.toNat) := by
  induction s with
  | nil => rfl
  | cons a r ih => rw [List.map_cons, List.flatMap_cons, ih]; rfl

theorem VR.int_inv {k : IntKind} {n : Int} {u : Value} (r : VR m (.int k n) u) : u = .int k n := by cases r; rfl

theorem cvBytes_sound (W : WR P genv B w₀ h m w) {src dst et : TypeId} (h1 : P.underlying src = some .string) (h2 : P.underlying dst = some (.slice et)) (h3 : P.underlying et = some (.int .u8)) (s : List UInt8) :
    ∃ v' m' w', (convert src dst (.string ⟨s.toArray⟩)).run P w = .ok v' w' ∧ VR m' (.sl .dead (s.map fun b => .int .u8 b.toNat)) v' ∧ WR P genv B w₀ h m' w' ∧ Ext h m h m' := by
  have hrun := run_bytes_of_string (P := P) w src dst et ⟨s.toArray⟩ h1 h2 h3
  have hsz : (⟨s.toArray⟩ : ByteArray).size = s.length := by simp [ByteArray.size]
  rw [hsz] at hrun
  have hvs : ∀ (i : Nat) v, (s.map fun b => (Value.int .u8 b.toNat))[i]? = some v → (bytesRow ⟨s.toArray⟩ (grownCap w s.length 0 et))[i]? = some v := fun i v hv => by
    have hi : i < s.length := by have := (List.getElem?_eq_some_iff.1 hv).1; simpa using this
    have hb := bytesRow_at ⟨s.toArray⟩ (grownCap w s.length 0 et) i (by simpa using hi)
    rw [hb]
    rw [List.getElem?_map, List.getElem?_eq_getElem hi] at hv
    simpa using hv
  refine ⟨_, _, _, hrun, ?_, W.drew.newStill _ _ _ (s.map fun b => (Value.int .u8 b.toNat)) hvs, ext_still W.drew _⟩
  have hfm := flat_ints s
  have hlen : s.length = (s.map fun b => (AV.int .u8 b.toNat)).length := by simp
  rw [hlen]
  refine .sl _ _ (s.map fun b => (Value.int .u8 b.toNat)) _ 0 _ 1 ?_ (by rw [hfm]; simp) (fun i c v hc hv => ?_) (fun i v hv => ?_) ?_ ?_ (fun hh => by cases hh) (fun t e hh => by cases hh)
  · intro x hx
    obtain ⟨b, _, rfl⟩ := List.mem_map.1 hx
    rfl
  · rw [hfm] at hc
    rw [List.getElem?_map] at hc hv
    cases hsi : s[i]? with
    | none => simp [hsi] at hc
    | some b => simp [hsi] at hc hv; subst hc; subst hv; exact .int _ _
  · simp only [Mem.still, World.size_drew, if_true, Nat.zero_add]; exact hv
  · rw [hfm, List.all_map]; exact List.all_eq_true.2 fun _ _ => rfl
  · rw [← hlen]; exact grownCap_ge w s.length 0 et

theorem toStr_spec : ∀ (xs : List AV) (s : List UInt8), toStr xs = .ok s → xs = s.map fun b => (AV.int .u8 b.toNat) := by
  intro xs
  induction xs with
  | nil => intro s e; cases e; rfl
  | cons x xs ih =>
    intro s e
    unfold toStr at e
    split at e
    · rename_i n
      split at e
      · rename_i hc
        obtain ⟨h1, h2⟩ := Bool.and_eq_true_iff.1 hc
        obtain ⟨l, hl, e⟩ := R.bind_ok e
        cases e
        have h3 := ile_iff h1
        have h4 := ilt_iff h2
        have h5 : ((UInt8.ofNat n.toNat).toNat : Int) = n := by
          rw [UInt8.toNat_ofNat']
          omega
        rw [List.map_cons, h5, ← ih l hl]
      · cases e
    · cases e

theorem cvText_sound (W : WR P genv B w₀ h m w) {src dst et : TypeId} (h1 : P.underlying src = some (.slice et)) (h2 : P.underlying et = some (.int .u8)) (h3 : P.underlying dst = some .string) {x : AV} {x' : Value} (hx : VR m x x')
    {nx : ONext} (e : oCvText h x = .ok nx) : ∃ s, nx = .val (.str s) h ∧ (convert src dst x').run P w = .ok (.string ⟨s.toArray⟩) w := by
  cases hx with
  | sl tk xs vs b off cap sz hs hl hc him hok hcap hf ho =>
    obtain ⟨s, hs', e⟩ := R.bind_ok e
    cases e
    have hxs := toStr_spec _ _ hs'
    subst hxs
    refine ⟨s, rfl, ?_⟩
    have hlen : (s.map fun b => (AV.int .u8 b.toNat)).length = s.length := by simp
    rw [hlen]
    refine run_convert_bytes_back w src dst et _ cap s h1 h2 h3 (fun j hj => ?_)
    rw [flat_ints] at hc hl
    have hj' : j < vs.length := by rw [← hl]; simpa using hj
    have hv := him j vs[j] (List.getElem?_eq_getElem hj')
    rw [addr_add, W.imm _ _ _ hv]
    have hr := hc j (.int .u8 (s[j].toNat)) vs[j] (by rw [List.getElem?_map, List.getElem?_eq_getElem hj]; rfl) (List.getElem?_eq_getElem hj')
    rw [hr.int_inv]
  | nilsl =>
    cases e
    exact ⟨[], rfl, by simp only [convert, Sem.run_bind, und_run h1, und_run h2, und_run h3, Result.andThen_ok]; rfl⟩
  | _ => cases e

/-! ### Made slices -/
theorem range_replicate (z : Array Value) (hz : 0 < z.size) : ∀ (n : Nat), ((Array.range (n * z.size)).map (fun i => z[i % z.size]!)).toList = (List.replicate n z.toList).flatten := by
  intro n
  rw [Array.toList_map, Array.toList_range]
  induction n with
  | zero => simp
  | succ n ih =>
    rw [Nat.succ_mul, List.range_add, List.map_append, ih, List.replicate_succ', List.flatten_append]
    congr 1
    simp only [List.map_map, List.flatten_cons, List.flatten_nil, List.append_nil]
    apply List.ext_getElem?
    intro j
    rw [List.getElem?_map]
    by_cases hj : j < z.size
    · rw [List.getElem?_range hj]
      simp only [Option.map_some, Function.comp]
      have : (n * z.size + j) % z.size = j := by rw [Nat.add_comm, Nat.add_mul_mod_self_right, Nat.mod_eq_of_lt hj]
      rw [this]
      simp [hj]
    · rw [List.getElem?_eq_none (by simpa using hj), List.getElem?_eq_none (by simpa using hj)]
      rfl

theorem LR.replicate {z : List AV} {vs : List Value} (hl : LR m z vs) (n : Nat) : LR m (List.replicate n z).flatten (List.replicate n vs).flatten := by
  induction n with
  | zero => exact LR.nil m
  | succ n ih => rw [List.replicate_succ, List.replicate_succ, List.flatten_cons, List.flatten_cons]; exact hl.append ih

theorem mkSlice_sound (W : WR P genv B w₀ h m w) {t et : TypeId} {n : Nat} {z : List AV} {i : TypeInfo} (hu : P.underlying t = some (.slice et)) (hn : sizeA P et = some n) (hz : zeroCells P et = some z) (hi : P.info? et = some i)
    (h1 : 1 ≤ n) (hzn : z.length = n) (hby : i.bytes ≤ 65536) {l c : AV} {l' c' : Value} (hl : VR m l l') (hc : VR m c c') {nx : ONext} (e : oMkSlice h z l c = .ok nx) :
    ∃ v h' v' m' w', nx = .val v h' ∧ (Instr.makeSlice t l' c').run P w = .ok v' w' ∧ VR m' v v' ∧ WR P genv B w₀ h' m' w' ∧ Ext h m h' m' := by
  cases hl with
  | int k1 ln =>
    cases hc with
    | int k2 cn =>
      simp only [oMkSlice] at e
      split at e
      · rename_i hcond
        cases e
        simp only [Bool.and_eq_true] at hcond
        obtain ⟨⟨⟨c1, c2⟩, c3⟩, c4⟩ := hcond
        have d1 := ile_iff c1
        have d2 := ile_iff c2
        have d3 := ile_iff c3
        obtain ⟨i', zv, hi', hzv, hzr, hzrun⟩ := zeroCells_spec (m := m) hz
        obtain ⟨inf, hinf, hs⟩ := sizeA_spec hn
        rw [hi] at hi' hinf
        cases hi'; cases hinf
        have hzsize : zv.cells.size = n := by rw [← hzn, hzr.1, Array.length_toList]
        have w1 : IntKind.i64.wrap ln = ln := wrap64_of _ (by omega) (by omega)
        have w2 : IntKind.i64.wrap cn = cn := wrap64_of _ (by omega) (by omega)
        have hbc : (i.bytes : Int) * cn ≤ 65536 * 1048576 := Int.mul_le_mul (by omega) d3 (by omega) (by omega)
        have t1 : (decide (cn < 0) || decide ((i.bytes : Int) * cn > 2 ^ 48)) = false := by
          have : ¬ cn < 0 := by omega
          have h2 : ¬ ((i.bytes : Int) * cn > 281474976710656) := by omega
          have h3 : (2 : Int) ^ 48 = 281474976710656 := by decide
          rw [h3]; simp [this, h2]
        have hcell : OR P genv (m.box h.next w.heap.size) (.cells (List.replicate cn.toNat z).flatten) (.cells ((Array.range (cn.toNat * n)).map (zv.cells[· % zv.cells.size]!)) et) := by
          refine .cells _ _ _ ?_
          have := range_replicate zv.cells (by omega) cn.toNat
          rw [hzsize] at this
          rw [hzsize, this]
          exact (hzr.replicate cn.toNat).mono (le_box W _ _ (W.ρ_fresh _ (Nat.le_refl _)))
        refine ⟨_, _, .slice (some ⟨w.heap.size, 0, none⟩) ln.toNat cn.toNat, _, _, rfl, ?_, .arr _ _ _ _ _ (ρ_box m h.next w.heap.size) (by omega), W.newBox _ _ hcell, ext_newBox W _⟩
        have hln : ¬ ln < 0 := by omega
        have hlc : ¬ ln > cn := by omega
        have hroom : ∀ b, (askRoom b).run P w = .ok () w := fun b => by simp
        simp only [Instr.makeSlice, Sem.run_bind, und_run hu, Result.andThen_ok, Go.asInt, asIntOf, Sem.run_pure, info_run hi, w1, w2, t1, size_run hi, hs, Bool.false_or]
        rw [if_neg (by simp [hln, hlc])]
        by_cases h0 : cn.toNat * n = 0
        · have hr0 : ((Array.range (cn.toNat * n)).map ((#[] : Array Value)[· % (#[] : Array Value).size]!)) = #[] := Array.eq_empty_of_size_eq_zero (by simp [h0])
          have hr1 : ((Array.range (cn.toNat * n)).map (zv.cells[· % zv.cells.size]!)) = #[] := Array.eq_empty_of_size_eq_zero (by simp [h0])
          simp only [Sem.run_bind, hroom, size_run hi, hs, Result.andThen_ok, if_pos h0, Sem.run_pure, hr0, hr1, newRow, run_newObj, World.alloc_eq]
        · simp only [Sem.run_bind, hroom, size_run hi, hs, Result.andThen_ok, if_neg h0, hzrun, Sem.run_pure, newRow, run_newObj, World.alloc_eq]
      · cases e
    | _ => cases e
  | _ => cases e

/-! ### Numbers -/
theorem maxA_sound (isMax : Bool) : ∀ (r : List AV) (rs : List Value) (a v : AV) (a' : Value), VR m a a' → LR m r rs → maxA isMax a r = .ok v →
    ∃ v', (rs.foldlM (if isMax then Builtin.max2 else Builtin.min2) a').run P w = .ok v' w ∧ VR m v v' := by
  intro r
  induction r with
  | nil =>
    intro rs a v a' ha hl e
    rw [hl.nil_inv]
    have : v = a := by unfold maxA at e; cases e; rfl
    exact ⟨a', rfl, this ▸ ha⟩
  | cons b r ih =>
    intro rs a v a' ha hl e
    obtain ⟨b', rs', rfl, hb, hl'⟩ := hl.cons_inv
    unfold maxA at e
    split at e
    · rename_i h1; cases h1
    · rename_i k x k' y r' h1
      cases h1
      cases ha with
      | int _ _ =>
        cases hb with
        | int _ _ =>
          obtain ⟨v', h2, h3⟩ := ih rs' _ v (.int k (if isMax then (if y > x then y else x) else (if y < x then y else x))) (.int _ _) hl' e
          refine ⟨v', ?_, h3⟩
          rw [List.foldlM_cons]
          cases isMax
          · simp only [Bool.false_eq_true, if_false] at h2 ⊢
            simp only [Sem.run_bind, Builtin.min2, Sem.run_pure, Result.andThen_ok]; exact h2
          · simp only [if_true] at h2 ⊢
            simp only [Sem.run_bind, Builtin.max2, Sem.run_pure, Result.andThen_ok]; exact h2
    · cases e

end Go.Am
