/-
  EACH ABSTRACT OPERATION IS THE MODEL'S: indices, slices of slices, appends, literals, strings.
-/
import Derived.Test.YtobfakjhhpbdmaaGreatDoorAmOps2
namespace Go.Am
open Go.RowKit

variable {P : Program} {genv : Nat → Option (List AV)} {B : Nat} {w₀ : World} {h : Heap} {m : Mem} {w : World}

theorem flat_length (xs : List AV) (sz : Nat) (hs : ∀ x ∈ xs, x.cells.length = sz) : (xs.flatMap AV.cells).length = xs.length * sz := by
  induction xs with
  | nil => simp
  | cons x r ih =>
    rw [List.flatMap_cons, List.length_append, hs x (by simp), ih (fun y hy => hs y (by simp [hy])), List.length_cons, Nat.add_mul]; omega
theorem flat_get (xs : List AV) (sz : Nat) (hs : ∀ x ∈ xs, x.cells.length = sz) (i : Nat) (e : AV) (he : xs[i]? = some e) (j : Nat) (hj : j < sz) :
    (xs.flatMap AV.cells)[i * sz + j]? = e.cells[j]? := by
  induction xs generalizing i with
  | nil => simp at he
  | cons x r ih =>
    have hx := hs x (by simp)
    rw [List.flatMap_cons]
    cases i with
    | zero => simp at he; subst he; rw [Nat.zero_mul, Nat.zero_add, List.getElem?_append_left (by omega)]
    | succ i =>
      rw [List.getElem?_append_right (by rw [hx, Nat.add_mul]; omega), hx, show (i + 1) * sz + j - sz = i * sz + j from by rw [Nat.add_mul]; omega]
      exact ih (fun y hy => hs y (by simp [hy])) i (by simpa using he)
theorem flat_take (xs : List AV) (sz : Nat) (hs : ∀ x ∈ xs, x.cells.length = sz) (k : Nat) : (xs.take k).flatMap AV.cells = (xs.flatMap AV.cells).take (k * sz) := by
  induction xs generalizing k with
  | nil => simp
  | cons x r ih =>
    have hx := hs x (by simp)
    cases k with
    | zero => simp
    | succ k =>
      rw [List.take_succ_cons, List.flatMap_cons, List.flatMap_cons, ih (fun y hy => hs y (by simp [hy])) k, show (k + 1) * sz = x.cells.length + k * sz from by rw [Nat.add_mul]; omega, List.take_length_add_append]
theorem flat_drop (xs : List AV) (sz : Nat) (hs : ∀ x ∈ xs, x.cells.length = sz) (k : Nat) : (xs.drop k).flatMap AV.cells = (xs.flatMap AV.cells).drop (k * sz) := by
  induction xs generalizing k with
  | nil => simp
  | cons x r ih =>
    have hx := hs x (by simp)
    cases k with
    | zero => simp
    | succ k =>
      rw [List.drop_succ_cons, List.flatMap_cons, ih (fun y hy => hs y (by simp [hy])) k, show (k + 1) * sz = x.cells.length + k * sz from by rw [Nat.add_mul]; omega, List.drop_length_add_append]

theorem ile_iff {a b : Int} (e : ile a b = true) : a ≤ b := by rw [ile_eq] at e; simpa using e
theorem ilt_iff {a b : Int} (e : ilt a b = true) : a < b := by rw [ilt_eq] at e; simpa using e

theorem iaddrA_sound (W : WR P genv B w₀ h m w) {t et : TypeId} {n : Nat} (hu : P.underlying t = some (.slice et)) (hn : sizeA P et = some n) {x i v : AV} {x' i' : Value}
    (hx : VR m x x') (hi : VR m i i') (hr : iaddrA n x i = .ok v) : ∃ v', (Instr.indexAt t x' i').run P w = .ok v' w ∧ VR m v v' := by
  obtain ⟨inf, hinf, hsz⟩ := sizeA_spec hn
  cases hx with
  | sl tk xs vs b off cap sz hs hl hc him hok hcap hf ho =>
    cases hi with
    | int k q =>
      simp only [iaddrA, iaddrSl] at hr
      split at hr
      · rename_i h0
        split at hr
        · rename_i e he
          split at hr
          · rename_i hsize
            cases hr
            rw [nth_eq] at he
            have hq := ile_iff h0
            have hlt : q.toNat < xs.length := (List.getElem?_eq_some_iff.1 he).1
            have hq2 : q < (xs.length : Int) := by omega
            have hes : e.cells.length = sz := hs e (List.mem_of_getElem? he)
            have hen : e.cells.length = n := Nat.eq_of_beq_eq_true hsize
            have hsn : sz = inf.size := by omega
            refine ⟨.pointer (some ⟨b, off + q.toNat * inf.size, none⟩), ?_, ?_⟩
            · simp [Instr.indexAt, asIntOf, und_run hu, size_run hinf, hq, hq2, addr_add]
            · have hfl := flat_length xs sz hs
              have hmul : q.toNat * sz + sz ≤ xs.length * sz := by rw [← Nat.succ_mul]; exact Nat.mul_le_mul_right sz hlt
              have hcell : ∀ j, j < sz → (xs.flatMap AV.cells)[q.toNat * sz + j]? = e.cells[j]? := fun j hj => flat_get xs sz hs _ e he j hj
              have hvl : ((vs.drop (q.toNat * sz)).take sz).length = sz := by simp; omega
              refine .ep e.cells ((vs.drop (q.toNat * sz)).take sz) b (off + q.toNat * inf.size) 0 (by rw [hvl]; exact hes) (fun j c u hjc hju => ?_) (fun j u hju => ?_)
              · rw [List.getElem?_take] at hju
                split at hju
                · rename_i hj
                  rw [List.getElem?_drop] at hju
                  exact hc (q.toNat * sz + j) c u (by rw [hcell j hj]; exact hjc) hju
                · cases hju
              · rw [List.getElem?_take] at hju
                split at hju
                · rename_i hj
                  rw [List.getElem?_drop] at hju
                  rw [← hsn, Nat.add_assoc]
                  exact him _ _ hju
                · cases hju
          · cases hr
        · cases hr
      · cases hr
    | _ => cases hr
  | arr id off len cap b hb hcap =>
    cases hi with
    | int k q =>
      simp only [iaddrA] at hr
      split at hr
      · rename_i h0
        cases hr
        obtain ⟨h1, h2⟩ := Bool.and_eq_true_iff.1 h0
        have hq := ile_iff h1
        have hq2 := ilt_iff h2
        refine ⟨.pointer (some ⟨b, off + q.toNat * inf.size, none⟩), ?_, ?_⟩
        · simp [Instr.indexAt, asIntOf, und_run hu, size_run hinf, hq, hq2, addr_add]
        · rw [hsz]; exact .ptr _ _ _ hb
      · cases hr
    | _ => cases hr
  | _ => cases hr

theorem iaddrArr_sound {t et : TypeId} {len n : Nat} (hu : P.underlying t = some (.array len et)) (hn : sizeA P et = some n) {x i v : AV} {x' i' : Value}
    (hx : VR m x x') (hi : VR m i i') {nx : ONext} (hr : oIaddrArr h len n x i = .ok nx) : ∃ v v', nx = .val v h ∧ (Instr.indexAt t x' i').run P w = .ok v' w ∧ VR m v v' := by
  obtain ⟨inf, hinf, hsz⟩ := sizeA_spec hn
  cases hi with
  | int k q =>
    simp only [oIaddrArr] at hr
    split at hr
    · rename_i h0
      obtain ⟨h1, h2⟩ := Bool.and_eq_true_iff.1 h0
      have hq := ile_iff h1
      have hq2 := ilt_iff h2
      obtain ⟨v, hv, hr⟩ := R.bind_ok hr
      cases hr
      cases hx with
      | ptr id off b hb =>
        cases hv
        exact ⟨_, .pointer (some ⟨b, off + q.toNat * inf.size, none⟩), rfl, by simp [Instr.indexAt, asIntOf, und_run hu, size_run hinf, hq, hq2, addr_add, Instr.sureAddr], by rw [hsz]; exact .ptr _ _ _ hb⟩
      | ep cs vs b base off hl hc hi =>
        cases hv
        exact ⟨_, .pointer (some ⟨b, base + (off + q.toNat * inf.size), none⟩), rfl, by simp [Instr.indexAt, asIntOf, und_run hu, size_run hinf, hq, hq2, addr_add, Instr.sureAddr, Nat.add_assoc], by rw [hsz]; exact .ep _ _ _ _ _ hl hc hi⟩
      | _ => cases hv
    · cases hr
  | _ => cases hr

theorem idxStr_sound {t : TypeId} (hu : P.underlying t = some .string) {x i : AV} {x' i' : Value} (hx : VR m x x') (hi : VR m i i') {nx : ONext} (hr : oIdxStr h x i = .ok nx) :
    ∃ v v', nx = .val v h ∧ (Instr.index t x' i').run P w = .ok v' w ∧ VR m v v' := by
  cases hx with
  | str s =>
    cases hi with
    | int k q =>
      simp only [oIdxStr] at hr
      split at hr
      · rename_i h0
        split at hr
        · rename_i b hb
          cases hr
          rw [nth_eq] at hb
          have hq := ile_iff h0
          have hb' : (⟨s.toArray⟩ : ByteArray)[q.toNat]? = some b := by
            have hlt : q.toNat < s.length := (List.getElem?_eq_some_iff.1 hb).1
            have hlt' : q.toNat < (⟨s.toArray⟩ : ByteArray).size := by simpa [ByteArray.size] using hlt
            rw [getElem?_pos (⟨s.toArray⟩ : ByteArray) q.toNat hlt']
            have := (List.getElem?_eq_some_iff.1 hb).2
            simpa [ByteArray.getElem_eq_getElem_data] using this
          refine ⟨_, .int .u8 b.toNat, rfl, ?_, .int _ _⟩
          simp [Instr.index, asIntOf, und_run hu, hq, hb']
        · cases hr
      · cases hr
    | _ => cases hr
  | _ => cases hr

theorem idxArr_sound {t et : TypeId} {len n : Nat} {a : Option Nat} (hu : P.underlying t = some (.array len et)) (hn : sizeA P et = some n) (ha : aggOf P et = some a) {x i : AV} {x' i' : Value}
    (hx : VR m x x') (hi : VR m i i') {nx : ONext} (hr : oIdxArr h len n a x i = .ok nx) : ∃ v v', nx = .val v h ∧ (Instr.index t x' i').run P w = .ok v' w ∧ VR m v v' := by
  obtain ⟨inf, hinf, hsz⟩ := sizeA_spec hn
  cases hx with
  | agg cs vs hl hc =>
    cases hi with
    | int k q =>
      simp only [oIdxArr] at hr
      split at hr
      · rename_i h0
        obtain ⟨h1, h2⟩ := Bool.and_eq_true_iff.1 h0
        have hq := ile_iff h1
        have hq2 := ilt_iff h2
        obtain ⟨v, hv, hr⟩ := R.bind_ok hr
        cases hr
        obtain ⟨v', h3, h4⟩ := readCells_agg (w := w) ha ⟨hl, hc⟩ hv
        rw [← hsz] at h3
        exact ⟨_, v', rfl, by simp [Instr.index, asIntOf, und_run hu, size_run hinf, hq, hq2, h3], h4⟩
      · cases hr
    | _ => cases hr
  | _ => cases hr

/-! ### Slices of slices -/
theorem bound_some {v : AV} {v' : Value} (hv : VR m v v') {most dflt n : Nat} (hr : bound (some v) most dflt = .ok n) :
    n ≤ most ∧ ∀ (y : Nat) (code : BoundsCode), most ≤ y → (Instr.sliceBound v' y code).run P w = .ok n w := by
  simp only [bound] at hr
  cases hv with
  | int k q =>
    simp only at hr
    split at hr
    · rename_i h0
      cases hr
      obtain ⟨h1, h2⟩ := Bool.and_eq_true_iff.1 h0
      have hq := ile_iff h1
      have hq2 := ile_iff h2
      refine ⟨by omega, fun y code hy => ?_⟩
      have hq3 : q ≤ (y : Int) := by omega
      simp [Instr.sliceBound, asIntOf, hq, hq3]
    · cases hr
  | _ => cases hr

/-- Optional operands. -/
inductive OVR (m : Mem) : Option AV → Option Value → Prop
  | none : OVR m none none
  | some {v : AV} {v' : Value} : VR m v v' → OVR m (some v) (some v')

/-- The three bounds, reckoned by the model: of a slice of n elements with the capacity c. -/
theorem bounds_sound (isSlice : Bool) {lo hi mx : Option AV} {lo' hi' mx' : Option Value} (hlo : OVR m lo lo') (hhi : OVR m hi hi') (hmx : OVR m mx mx') {n c m1 h1 l1 : Nat} (hnc : n ≤ c)
    (e1 : bound mx n n = .ok m1) (e2 : hiOf hi mx m1 n = .ok h1) (e3 : bound lo h1 0 = .ok l1) :
    ∃ m2, (Instr.sliceBounds isSlice n c lo' hi' mx').run P w = .ok (l1, h1, m2) w ∧ l1 ≤ h1 ∧ h1 ≤ m1 ∧ m1 ≤ n ∧ ((mx = none ∧ m2 = c ∧ m1 = n) ∨ (mx ≠ none ∧ m2 = m1)) := by
  cases hmx with
  | none =>
    cases e1
    cases hhi with
    | none =>
      cases e2
      cases hlo with
      | none => cases e3; exact ⟨c, by simp [Instr.sliceBounds], by omega, by omega, by omega, .inl ⟨rfl, rfl, rfl⟩⟩
      | some hv =>
        obtain ⟨k1, k2⟩ := bound_some (P := P) (w := w) hv e3
        exact ⟨c, by simp [Instr.sliceBounds, k2 _ _ (Nat.le_refl _)], k1, by omega, by omega, .inl ⟨rfl, rfl, rfl⟩⟩
    | some hv2 =>
      obtain ⟨j1, j2⟩ := bound_some (P := P) (w := w) (most := n) (dflt := n) hv2 e2
      cases hlo with
      | none => cases e3; exact ⟨c, by simp [Instr.sliceBounds, j2 _ _ hnc], by omega, by omega, by omega, .inl ⟨rfl, rfl, rfl⟩⟩
      | some hv =>
        obtain ⟨k1, k2⟩ := bound_some (P := P) (w := w) hv e3
        exact ⟨c, by simp [Instr.sliceBounds, j2 _ _ hnc, k2 _ _ (Nat.le_refl _)], k1, by omega, by omega, .inl ⟨rfl, rfl, rfl⟩⟩
  | some hv3 =>
    obtain ⟨i1, i2⟩ := bound_some (P := P) (w := w) hv3 e1
    cases hhi with
    | none => cases e2
    | some hv2 =>
      obtain ⟨j1, j2⟩ := bound_some (P := P) (w := w) (most := m1) (dflt := n) hv2 e2
      cases hlo with
      | none => cases e3; exact ⟨m1, by simp [Instr.sliceBounds, i2 _ _ hnc, j2 _ _ (Nat.le_refl _)], by omega, by omega, by omega, .inr ⟨by simp, rfl⟩⟩
      | some hv =>
        obtain ⟨k1, k2⟩ := bound_some (P := P) (w := w) hv e3
        exact ⟨m1, by simp [Instr.sliceBounds, i2 _ _ hnc, j2 _ _ (Nat.le_refl _), k2 _ _ (Nat.le_refl _)], k1, by omega, by omega, .inr ⟨by simp, rfl⟩⟩

theorem WR.ρ_ne (W : WR P genv B w₀ h m w) {i b o : Nat} {v : Value} (hr : m.ρ i = some b) (hv : m.imm b o = some v) : False := by rw [W.apart i b o hr] at hv; cases hv

theorem slStr_sound {t : TypeId} (hu : P.underlying t = some .string) {s : List UInt8} {lo hi : Option AV} {lo' hi' : Option Value} (hlo : OVR m lo lo') (hhi : OVR m hi hi') {v : AV}
    (hr : slStr s lo hi = .ok v) : ∃ v', (Instr.sliceAt t (.string ⟨s.toArray⟩) lo' hi' none).run P w = .ok v' w ∧ VR m v v' := by
  obtain ⟨h1, e1, hr⟩ := R.bind_ok hr
  obtain ⟨l1, e2, hr⟩ := R.bind_ok hr
  cases hr
  obtain ⟨m2, hrun, h3, h4, _, _⟩ := bounds_sound (P := P) (w := w) false hlo hhi (.none) (n := s.length) (c := s.length) (m1 := s.length) (Nat.le_refl _) rfl (show hiOf hi none s.length s.length = .ok h1 from by unfold hiOf; cases hi <;> exact e1) e2
  have hs : (⟨s.toArray⟩ : ByteArray).size = s.length := by simp [ByteArray.size]
  refine ⟨.string ((⟨s.toArray⟩ : ByteArray).extract l1 h1), ?_, ?_⟩
  · simp [Instr.sliceAt, und_run hu, Instr.slice, hs, hrun]
  · have he : (⟨s.toArray⟩ : ByteArray).extract l1 h1 = ⟨((s.take h1).drop l1).toArray⟩ := by
      apply ByteArray.ext
      rw [ByteArray.data_extract]
      apply Array.ext'
      simp [List.extract_eq_take_drop, List.drop_take]
    rw [he]; exact .str _

theorem slSl_sound {t et : TypeId} {n : Nat} (hu : P.underlying t = some (.slice et)) (hn : sizeA P et = some n) {tk : Tk} {xs : List AV} {x' : Value} (hx : VR m (.sl tk xs) x')
    {lo hi mx : Option AV} {lo' hi' mx' : Option Value} (hlo : OVR m lo lo') (hhi : OVR m hi hi') (hmx : OVR m mx mx') {v : AV}
    (hr : slSl n tk xs lo hi mx = .ok v) : ∃ v', (Instr.sliceAt t x' lo' hi' mx').run P w = .ok v' w ∧ VR m v v' := by
  obtain ⟨inf, hinf, hinfs⟩ := sizeA_spec hn
  cases hx with
  | sl _ _ vs b off cap sz hs hl hc him hok hcap hf ho =>
    unfold slSl at hr
    split at hr
    case h_1 => cases hr
    rename_i hhs
    have hsz : xs ≠ [] → headSize n xs = true := fun _ => hhs
    obtain ⟨m1, e1, hr⟩ := R.bind_ok hr
    obtain ⟨h1, e2, hr⟩ := R.bind_ok hr
    obtain ⟨l1, e3, hr⟩ := R.bind_ok hr
    cases hr
    obtain ⟨m2, hrun, hle1, hle2, hle3, hcase⟩ := bounds_sound (P := P) (w := w) true hlo hhi hmx hcap e1 e2 e3
    refine ⟨_, by simp only [Instr.sliceAt, und_run hu, Instr.slice, Sem.run_bind, Result.andThen_ok, hrun, size_run hinf, Sem.run_pure]; rfl, ?_⟩
    have hlen : ((xs.take h1).drop l1).length = h1 - l1 := by simp; omega
    have hfl := flat_length xs sz hs
    have hzs : ∀ x ∈ (xs.take h1).drop l1, x.cells.length = sz := fun x hx => hs x (List.mem_of_mem_take (List.mem_of_mem_drop hx))
    have hflat : ((xs.take h1).drop l1).flatMap AV.cells = ((xs.flatMap AV.cells).take (h1 * sz)).drop (l1 * sz) := by
      rw [flat_drop _ sz (fun x hx => hs x (List.mem_of_mem_take hx)), flat_take _ sz hs]
    have hLR : LR m (xs.flatMap AV.cells) vs := ⟨hl, hc⟩
    have hLR2 := (hLR.take (h1 * sz)).drop (l1 * sz)
    rw [← hflat] at hLR2
    have him2 : ∀ (i : Nat) v, ((vs.take (h1 * sz)).drop (l1 * sz))[i]? = some v → m.imm b (off + l1 * sz + i) = some v := fun i v hv => by
      rw [List.getElem?_drop, List.getElem?_take] at hv
      split at hv
      · have := him _ _ hv
        rwa [← Nat.add_assoc] at this
      · cases hv
    by_cases hne : l1 < h1
    · -- the size is the elements'
      have hx0 : xs ≠ [] := by intro e; subst e; simp at hle3; omega
      have hszn : sz = inf.size := by
        cases xs with
        | nil => exact absurd rfl hx0
        | cons x r =>
          have h2 := hs x (by simp)
          have h3 : x.cells.length = n := Nat.eq_of_beq_eq_true (hsz (by simp))
          omega
      have hml : ¬ m2 = l1 := by
        rcases hcase with ⟨_, rfl, _⟩ | ⟨_, rfl⟩ <;> omega
      rw [if_neg hml]
      simp only [Option.map_some, addr_add]
      rw [← hlen, ← hszn]
      refine .sl _ _ _ b (off + l1 * sz) (m2 - l1) sz hzs hLR2.1 hLR2.2 him2 (by rw [hflat]; exact List.all_eq_true.2 fun c hc => List.all_eq_true.1 hok c (List.mem_of_mem_take (List.mem_of_mem_drop hc))) (by rw [hlen]; rcases hcase with ⟨_, rfl, _⟩ | ⟨_, rfl⟩ <;> omega) (fun htk => ?_) (fun t e htk => ?_)
      · rw [hlen]
        rcases hcase with ⟨rfl, rfl, rfl⟩ | ⟨hm, rfl⟩
        · simp only [slTk] at htk
          split at htk
          · rename_i hh
            have := Nat.eq_of_beq_eq_true hh
            split at htk
            · have := hf htk; omega
            · rename_i hb; have hbt : Nat.blt l1 h1 = true := (by rw [Nat.blt_eq]; exact hne); rw [hb] at hbt; cases hbt
          · cases htk
        · cases hmx with
          | none => exact absurd rfl hm
          | some _ =>
            simp only [slTk] at htk
            split at htk
            · rename_i hh; have := Nat.eq_of_beq_eq_true hh; omega
            · cases htk
      · rcases hcase with ⟨rfl, rfl, rfl⟩ | ⟨hm, rfl⟩
        · simp only [slTk] at htk
          split at htk
          · rename_i hh
            have hh' := Nat.eq_of_beq_eq_true hh
            split at htk
            · obtain ⟨k1, k2, k3, k4⟩ := ho t e htk
              refine ⟨k1, k2, ?_, ?_⟩
              · rw [hlen, ← k3, ← hh', Nat.sub_mul]
                have : l1 * sz ≤ h1 * sz := Nat.mul_le_mul_right sz hle1
                omega
              · rw [← k4, Nat.sub_mul]
                have : l1 * sz ≤ m2 * sz := Nat.mul_le_mul_right sz (by omega)
                omega
            · rename_i hb; have hbt : Nat.blt l1 h1 = true := (by rw [Nat.blt_eq]; exact hne); rw [hb] at hbt; cases hbt
          · cases htk
        · cases hmx with
          | none => exact absurd rfl hm
          | some _ =>
            simp only [slTk] at htk
            split at htk <;> cases htk
    · -- nothing is left
      have hl0 : h1 = l1 := by omega
      subst hl0
      have hys : (xs.take h1).drop h1 = [] := List.eq_nil_of_length_eq_zero (by rw [hlen]; omega)
      have hbase : ∃ o', (if m2 = h1 then some (⟨b, off, none⟩ : Addr) else Option.map (fun (x : Addr) => x.add (h1 * inf.size)) (some ⟨b, off, none⟩)) = some ⟨b, o', none⟩ ∧ (h1 = 0 → o' = off) := by
        by_cases hm : m2 = h1
        · rw [if_pos hm]; exact ⟨off, rfl, fun _ => rfl⟩
        · rw [if_neg hm]; simp only [Option.map_some, addr_add]; exact ⟨_, rfl, fun h0 => by rw [h0]; simp⟩
      obtain ⟨o', ho', ho0⟩ := hbase
      simp only [ho', hys]
      have hzero : h1 - h1 = ([] : List AV).length := by simp
      rw [hzero]
      refine .sl _ [] [] b o' (m2 - h1) sz (by simp) rfl (by simp) (by simp) rfl (by simp) (fun htk => ?_) (fun t e htk => ?_)
      · rcases hcase with ⟨rfl, rfl, rfl⟩ | ⟨hm, rfl⟩
        · simp only [slTk] at htk
          split at htk
          · rename_i hh
            have hh' := Nat.eq_of_beq_eq_true hh
            split at htk
            · rename_i hb; simp [Nat.blt_eq] at hb
            · split at htk
              · rename_i hz; have := Nat.eq_of_beq_eq_true hz; have := hf htk; simp; omega
              · cases htk
          · cases htk
        · cases hmx with
          | none => exact absurd rfl hm
          | some _ =>
            simp only [slTk] at htk
            split at htk
            · rename_i hh; have := Nat.eq_of_beq_eq_true hh; simp; omega
            · cases htk
      · rcases hcase with ⟨rfl, rfl, rfl⟩ | ⟨hm, rfl⟩
        · simp only [slTk] at htk
          split at htk
          · rename_i hh
            have hh' := Nat.eq_of_beq_eq_true hh
            split at htk
            · rename_i hb; simp [Nat.blt_eq] at hb
            · split at htk
              · rename_i hz
                have hz' := Nat.eq_of_beq_eq_true hz
                obtain ⟨k1, k2, k3, k4⟩ := ho t e htk
                have hxs0 : xs.length = 0 := by omega
                rw [ho0 hz']
                rw [hxs0] at k3
                refine ⟨k1, k2, by simpa using k3, by rw [hz']; simpa using k4⟩
              · cases htk
          · cases htk
        · cases hmx with
          | none => exact absurd rfl hm
          | some _ =>
            simp only [slTk] at htk
            split at htk <;> cases htk

theorem slNil_sound {t et : TypeId} {n : Nat} (hu : P.underlying t = some (.slice et)) (hn : sizeA P et = some n)
    {lo hi mx : Option AV} {lo' hi' mx' : Option Value} (hlo : OVR m lo lo') (hhi : OVR m hi hi') (hmx : OVR m mx mx') {v : AV}
    (hr : slNil lo hi mx = .ok v) : ∃ v', (Instr.sliceAt t (.slice none 0 0) lo' hi' mx').run P w = .ok v' w ∧ VR m v v' := by
  obtain ⟨inf, hinf, hinfs⟩ := sizeA_spec hn
  obtain ⟨m1, e1, hr⟩ := R.bind_ok hr
  obtain ⟨h1, e2, hr⟩ := R.bind_ok hr
  obtain ⟨l1, e3, hr⟩ := R.bind_ok hr
  cases hr
  obtain ⟨m2, hrun, hle1, hle2, hle3, hcase⟩ := bounds_sound (P := P) (w := w) true hlo hhi hmx (Nat.le_refl 0) e1 e2 e3
  have h10 : h1 = 0 := by omega
  have hl0 : l1 = 0 := by omega
  have hm0 : m2 = 0 := by rcases hcase with ⟨_, h, _⟩ | ⟨_, h⟩ <;> omega
  subst h10; subst hl0; subst hm0
  exact ⟨.slice none 0 0, by simp [Instr.sliceAt, und_run hu, Instr.slice, hrun, size_run hinf], .nilsl⟩

theorem slArr_sound {t et : TypeId} {n : Nat} (hu : P.underlying t = some (.slice et)) (hn : sizeA P et = some n) {id off len cap b : Nat} (hb : m.ρ id = some b) (hlc : len ≤ cap)
    {lo hi mx : Option AV} {lo' hi' mx' : Option Value} (hlo : OVR m lo lo') (hhi : OVR m hi hi') (hmx : OVR m mx mx') {v : AV}
    (hr : slArr n id off len cap lo hi mx = .ok v) : ∃ v', (Instr.sliceAt t (.slice (some ⟨b, off, none⟩) len cap) lo' hi' mx').run P w = .ok v' w ∧ VR m v v' := by
  obtain ⟨inf, hinf, hinfs⟩ := sizeA_spec hn
  obtain ⟨m1, e1, hr⟩ := R.bind_ok hr
  obtain ⟨h1, e2, hr⟩ := R.bind_ok hr
  obtain ⟨l1, e3, hr⟩ := R.bind_ok hr
  have key : (Instr.sliceBounds true len cap lo' hi' mx').run P w = .ok (l1, h1, m1) w ∧ l1 ≤ h1 ∧ h1 ≤ m1 := by
    cases hmx with
    | none =>
      cases e1
      cases hhi with
      | none =>
        cases e2
        cases hlo with
        | none => cases e3; exact ⟨by simp [Instr.sliceBounds], by omega, hlc⟩
        | some hv => obtain ⟨k1, k2⟩ := bound_some (P := P) (w := w) hv e3; exact ⟨by simp [Instr.sliceBounds, k2 _ _ (Nat.le_refl _)], k1, hlc⟩
      | some hv2 =>
        obtain ⟨j1, j2⟩ := bound_some (P := P) (w := w) (most := cap) (dflt := len) hv2 e2
        cases hlo with
        | none => cases e3; exact ⟨by simp [Instr.sliceBounds, j2 _ _ (Nat.le_refl _)], by omega, j1⟩
        | some hv => obtain ⟨k1, k2⟩ := bound_some (P := P) (w := w) hv e3; exact ⟨by simp [Instr.sliceBounds, j2 _ _ (Nat.le_refl _), k2 _ _ (Nat.le_refl _)], k1, j1⟩
    | some hv3 =>
      obtain ⟨i1, i2⟩ := bound_some (P := P) (w := w) hv3 e1
      cases hhi with
      | none => cases e2
      | some hv2 =>
        obtain ⟨j1, j2⟩ := bound_some (P := P) (w := w) (most := m1) (dflt := len) hv2 e2
        cases hlo with
        | none => cases e3; exact ⟨by simp [Instr.sliceBounds, i2 _ _ (Nat.le_refl _), j2 _ _ (Nat.le_refl _)], by omega, j1⟩
        | some hv => obtain ⟨k1, k2⟩ := bound_some (P := P) (w := w) hv e3; exact ⟨by simp [Instr.sliceBounds, i2 _ _ (Nat.le_refl _), j2 _ _ (Nat.le_refl _), k2 _ _ (Nat.le_refl _)], k1, j1⟩
  obtain ⟨hrun, hle1, hle2⟩ := key
  refine ⟨_, by simp only [Instr.sliceAt, und_run hu, Instr.slice, Sem.run_bind, Result.andThen_ok, hrun, size_run hinf, Sem.run_pure]; rfl, ?_⟩
  split at hr
  · rename_i hh
    cases hr
    rw [if_pos (Nat.eq_of_beq_eq_true hh)]
    exact .arr _ _ _ _ _ hb (by omega)
  · rename_i hh
    cases hr
    have hne : ¬ m1 = l1 := fun e => by subst e; simp at hh
    rw [if_neg hne]
    simp only [Option.map_some, addr_add]
    rw [hinfs]
    exact .arr _ _ _ _ _ hb (by omega)

end Go.Am
