/-
  EACH ABSTRACT OPERATION IS THE MODEL'S: append.
-/
import Derived.Test.YtobfakjhhpbdmaaGreatDoorAmOps3
import Derived.Laws.AppendOwn
namespace Go.Am
open Go.RowKit

variable {P : Program} {genv : Nat → Option (List AV)} {B : Nat} {w₀ : World} {h : Heap} {m : Mem} {w : World}

theorem allSize_spec {n : Nat} : ∀ {l : List AV}, allSize n l = true → ∀ x ∈ l, x.cells.length = n := by
  intro l
  induction l with
  | nil => intro _ x hx; cases hx
  | cons a r ih =>
    intro e x hx
    simp only [allSize] at e
    split at e
    · rename_i hh
      cases hx with
      | head => exact Nat.eq_of_beq_eq_true hh
      | tail _ hm => exact ih e x hm
    · cases e

/-- What is read of a slice that is appended: its elements, in the world. -/
def Source (m : Mem) (w : World) (size : Nat) (x' : Value) (ys : List AV) : Prop :=
  (ys.flatMap AV.cells).all AV.isCell = true ∧ ∃ (a : Option Addr) (len cap : Nat) (us : List Value), x' = .slice a len cap ∧ len = ys.length ∧ (ys ≠ [] → (∀ y ∈ ys, y.cells.length = size) → ∃ b, a = some b ∧ us.length = len * size ∧ LR m (ys.flatMap AV.cells) us ∧
    (∀ (j : Nat) u, us[j]? = some u → w.cell? (b.add j) = some u))

theorem elemsOf_sound (W : WR P genv B w₀ h m w) {size : Nat} {x : AV} {x' : Value} {ys : List AV} (hx : VR m x x') (hr : elemsOf h size x = .ok ys) : Source m w size x' ys := by
  cases hx with
  | sl tk xs vs b off cap sz hs hl hc him hok hcap hf ho =>
    cases hr
    refine ⟨hok, _, _, _, vs, rfl, rfl, fun hne hsz => ⟨_, rfl, ?_, ⟨hl, hc⟩, fun j u hj => ?_⟩⟩
    · rw [← hl, flat_length _ size hsz]
    · rw [addr_add]; exact W.imm _ _ _ (him j u hj)
  | nilsl => cases hr; exact ⟨rfl, none, 0, 0, [], rfl, rfl, fun hne => absurd rfl hne⟩
  | arr id off len cap b hb hlc =>
    simp only [elemsOf] at hr
    split at hr
    · rename_i hsz1
      have hsz1' := Nat.eq_of_beq_eq_true hsz1
      subst hsz1'
      split at hr
      · rename_i cs hg
        split at hr
        · rename_i l hl
          split at hr
          · rename_i hcell
            cases hr
            obtain ⟨rfl, hlen⟩ := takeN_spec _ _ _ hl
            obtain ⟨vs, hLR, hw⟩ := W.cellsAt hb hg
            have hLR2 := (hLR.drop off).take len
            have hyl : ((cs.drop off).take len).length = len := by simp at hlen ⊢; omega
            have hfm : ((cs.drop off).take len).flatMap AV.cells = (cs.drop off).take len := by
              have : ∀ l : List AV, l.all AV.isCell = true → l.flatMap AV.cells = l := by
                intro l
                induction l with
                | nil => intro _; rfl
                | cons x r ih =>
                  intro hh
                  simp only [List.all_cons, Bool.and_eq_true] at hh
                  rw [List.flatMap_cons, ih hh.2]
                  have hx := hh.1
                  cases x <;> first | rfl | cases hx
              exact this _ hcell
            refine ⟨by rw [hfm]; exact hcell, _, _, _, (vs.drop off).take len, rfl, hyl.symm, fun _ _ => ⟨_, rfl, ?_, by rw [hfm]; exact hLR2, fun j u hj => ?_⟩⟩
            · rw [← hLR2.1, hyl, Nat.mul_one]
            · rw [List.getElem?_take] at hj
              split at hj
              · rw [List.getElem?_drop] at hj
                rw [addr_add]
                have := hw _ _ hj
                simpa using this
              · cases hj
          · cases hr
        · cases hr
      · cases hr
    · cases hr
  | _ => cases hr

theorem run_append_zero (t ty e : TypeId) (i : TypeInfo) (ht : P.underlying t = some (.slice e)) (hi : P.info? e = some i) (base : Option Addr) (sLen sCap : Nat) (hle : sLen ≤ sCap)
    (a : Option Addr) (c : Nat) : (Builtin.append_ #[t, t] ty #[.slice base sLen sCap, .slice a 0 c]).run P w = .ok (.slice base sLen sCap) w := by
  cases base <;> cases a <;> simp [Builtin.append_, run_underlying ht, size_run hi, info_run hi, Builtin.lenOf, hle, Builtin.firstCells, loadCells, loadCellsFrom, storeCells]

theorem run_append_at (t ty e : TypeId) (i : TypeInfo) (ht : P.underlying t = some (.slice e)) (hi : P.info? e = some i)
    (g sLen sCap : Nat) (cur : Array Value) (e' : TypeId) (hg : w.heap[g]? = some (.cells cur e' (0, 0)))
    (a : Addr) (n c : Nat) (news : List Value) (hl : news.length = n * i.size) (hnews : ∀ j u, news[j]? = some u → w.cell? (a.add j) = some u) (h1 : ∀ u ∈ news, u.oneCell' = true)
    (hroom : sLen + n ≤ sCap) (hfit : sLen * i.size + news.length ≤ cur.size) :
    (Builtin.append_ #[t, t] ty #[.slice (some ⟨g, 0, none⟩) sLen sCap, .slice (some a) n c]).run P w =
      .ok (.slice (some ⟨g, 0, none⟩) (sLen + n) sCap) (w.setRow g (cur.toList.take (sLen * i.size) ++ news ++ cur.toList.drop (sLen * i.size + news.length)).toArray) := by
  have hf := run_firstCells_some (P := P) w i.size n a n c news hl hnews
  have hst := run_storeCells_at P g (sLen * i.size) e' news 0 cur w hg (by simpa using hfit) h1
  simp only [Nat.add_zero] at hst
  simp [Builtin.append_, run_underlying ht, sizeOf, typeInfo, hi, Builtin.lenOf, hroom, hf, Addr.add_lit, hst]

/-- A block laid anew for a token that is there already. -/
theorem WR.newOwnedAt (W : WR P genv B w₀ h m w) {b t sz n k : Nat} (ho : m.own b = some (t, sz)) (hg : h.get t = some (.tok n)) (cells : Array Value) (e : TypeId) (vs : List Value)
    (hn : vs.length = (n + k) * sz) (hv : ∀ (i : Nat) v, vs[i]? = some v → cells[i]? = some v) :
    WR P genv B w₀ (h.set t (.tok (n + k))) (m.owned w.heap.size vs t sz cells.size) (w.alloc (.cells cells e)) ∧ Ext h m (h.set t (.tok (n + k))) (m.owned w.heap.size vs t sz cells.size) := by
  have hle := le_owned W vs t sz cells.size
  have hlt0 := W.own_lt ho
  obtain ⟨_, ht0, _, _, _, _, _⟩ := W.own b t sz ho
  refine ⟨⟨W.below.alloc W.size _, by simp; have := W.size; omega, W.inj, fun i b hi => ?_, fun i c hi => ?_, fun c o v e' => ?_, fun i b o hi => ?_, fun c t' s e' => ?_, fun g cs e' => ?_⟩, hle, by simp, fun _ _ => rfl⟩
  · obtain ⟨h1, h2, h3⟩ := W.lt i b hi
    exact ⟨by simp; omega, h2, by simp; omega⟩
  · obtain ⟨o', r', k1, k2, k3⟩ := W.obj i c hi
    have hit : i ≠ t := fun hh => by
      subst hh
      have hi' : m.ρ i = some c := hi
      rw [ht0] at hi'; cases hi'
    exact ⟨o', r', by rw [Heap.get_set _ _ _ _ hlt0.2, if_neg hit]; exact k1, by rw [heap_alloc_lt w _ c (W.lt i c hi).2.2]; exact k2, k3.mono hle⟩
  · simp only [Mem.owned] at e'
    split at e'
    · rename_i hc
      subst hc
      have := hv o v e'
      show (match (w.heap.push (.cells cells e (0, 0)))[w.heap.size]? with | some (.cells c _ _) => if (none : Option Nat).isSome then none else c[o]? | _ => none) = some v
      rw [Array.getElem?_push_size]; simpa using this
    · have hlt := World.block_lt_of_cell? w _ (W.imm _ _ _ e')
      rw [World.cell?_alloc_lt w _ _ hlt]
      exact W.imm _ _ _ e'
  · have := (W.lt i b hi).2.2
    simp only [Mem.owned]; rw [if_neg (by omega)]
    exact W.apart i b o hi
  · simp only [Mem.owned] at e'
    split at e'
    · rename_i hc
      subst hc
      cases e'
      refine ⟨W.size, ht0, fun i hi => by have := (W.lt i _ hi).2.2; omega, n + k, by rw [Heap.get_set _ _ _ _ hlt0.2, if_pos rfl], fun o ho' => ?_, cells, _, heap_alloc_new w _, by simp [Mem.owned]⟩
      simp only [Mem.owned, if_true]
      exact List.getElem?_eq_none (by omega)
    · rename_i hc
      obtain ⟨h1, h2, h3, q, h4, h5, cs, et, h6, h7⟩ := W.own c t' s e'
      have hlt := W.own_lt e'
      have hcell : ∃ cs e, (w.alloc (.cells cells e)).heap[c]? = some (.cells cs e (0, 0)) ∧ cs.size = (m.owned w.heap.size vs t sz cells.size).bsz c :=
        ⟨cs, et, by rw [heap_alloc_lt w _ c hlt.1]; exact h6, by simp only [Mem.owned]; rw [if_neg hc]; exact h7⟩
      obtain ⟨cs2, et2, h8, h9⟩ := hcell
      by_cases htt : t' = t
      · subst htt
        rw [hg] at h4; cases h4
        refine ⟨h1, h2, h3, n + k, by rw [Heap.get_set _ _ _ _ hlt0.2, if_pos rfl], fun o ho' => ?_, cs, et, by rw [heap_alloc_lt w _ c hlt.1]; exact h6, by simp only [Mem.owned]; rw [if_neg hc]; exact h7⟩
        have hmul : (n + k) * s = n * s + k * s := Nat.add_mul n k s
        simp only [Mem.owned]; rw [if_neg hc]; exact h5 o (by omega)
      · exact ⟨h1, h2, h3, q, by rw [Heap.get_set _ _ _ _ hlt0.2, if_neg htt]; exact h4, fun o ho' => by simp only [Mem.owned]; rw [if_neg hc]; exact h5 o ho', cs, et,
          by rw [heap_alloc_lt w _ c hlt.1]; exact h6, by simp only [Mem.owned]; rw [if_neg hc]; exact h7⟩
  · obtain ⟨us, h1, h2⟩ := W.glob g cs e'
    exact ⟨us, h1.mono hle, fun i v hi => hle.imm _ _ _ (h2 i v hi)⟩

theorem flat_oneCell {xs : List AV} {us : List Value} (hl : LR m (xs.flatMap AV.cells) us) (hc : (xs.flatMap AV.cells).all AV.isCell = true) : ∀ u ∈ us, u.oneCell' = true := by
  intro u hu
  obtain ⟨i, hi, rfl⟩ := List.getElem_of_mem hu
  have hi' : i < (xs.flatMap AV.cells).length := by rw [hl.1]; exact hi
  have h1 := List.all_eq_true.1 hc _ (List.getElem_mem hi')
  exact (hl.2 i _ _ (List.getElem?_eq_getElem hi') (List.getElem?_eq_getElem hi)).oneCell h1

/-- What is asked of the types of an append. -/
structure AppT (P : Program) (t e : TypeId) (i : TypeInfo) (z : Value) : Prop where
  und : P.underlying t = some (.slice e)
  info : P.info? e = some i
  zero : i.zero = some z
  one : 1 ≤ i.size
  zsize : z.cells.size = i.size
  bytes : i.bytes ≤ 65536

theorem appNew_sound (W : WR P genv B w₀ h m w) {t ty e : TypeId} {i : TypeInfo} {z : Value} (T : AppT P t e i z) {xs ys : List AV} (hne : ys ≠ []) (hys : ∀ y ∈ ys, y.cells.length = i.size) {x' : Value}
    (hs : Source m w i.size x' ys) {s' : Value} (hx : (xs = [] ∧ s' = .slice none 0 0) ∨ VR m (.sl .full xs) s') {v : AV} {h' : Heap} (hr : appNew h i.size xs ys = .ok (v, h')) :
    ∃ v' m' w', (Builtin.append_ #[t, t] ty #[s', x']).run P w = .ok v' w' ∧ VR m' v v' ∧ WR P genv B w₀ h' m' w' ∧ Ext h m h' m' := by
  obtain ⟨hokys, a, len, cap, us, rfl, rfl, hsrc⟩ := hs
  obtain ⟨b, rfl, hul, hLR, hcell⟩ := hsrc hne hys
  simp only [appNew] at hr
  split at hr
  · rename_i hcond
    cases hr
    obtain ⟨hc1, hc2⟩ := Bool.and_eq_true_iff.1 hcond
    have hmax : (xs.length + ys.length) * i.size ≤ 1073741824 := Nat.le_of_ble_eq_true hc1
    have hlen0 : 0 < ys.length := List.length_pos_iff.2 hne
    have hle1 : xs.length + ys.length ≤ (xs.length + ys.length) * i.size := Nat.le_mul_of_pos_right _ T.one
    have hneed : xs.length + ys.length ≤ 1073741824 := by omega
    have hbytes : (xs.length + ys.length) * i.bytes ≤ 1073741824 * 65536 := Nat.mul_le_mul hneed T.bytes
    have hflys : (ys.flatMap AV.cells).length = ys.length * i.size := flat_length ys _ hys
    -- the new block
    have fin : ∀ (olds : List Value) (nc : Nat) (ob : Array Value) (xs0 : List AV), xs0 = xs → olds.length = xs.length * i.size → LR m (xs.flatMap AV.cells) olds → (xs.flatMap AV.cells).all AV.isCell = true → (∀ x ∈ xs, x.cells.length = i.size) → xs.length + ys.length ≤ nc →
        ob = olds.toArray ++ us.toArray ++ Builtin.zeroCells z.cells (nc - (xs.length + ys.length)) →
        ∃ m' w', w' = w.drew.alloc (.cells ob e) ∧ VR m' (.sl (.opn h.next (xs.length + ys.length)) (xs ++ ys)) (.slice (some ⟨w.heap.size, 0, none⟩) (xs.length + ys.length) nc) ∧
          WR P genv B w₀ (h.push (.tok (xs.length + ys.length))) m' w' ∧ Ext h m (h.push (.tok (xs.length + ys.length))) m' := by
      intro olds nc ob xs0 _ hol hoLR hokx hxs hnc hob
      have hvs : (olds ++ us).length = (xs.length + ys.length) * i.size := by rw [List.length_append, hol, hul, Nat.add_mul]
      have hW := W.drew.newOwned ob e (olds ++ us) (xs.length + ys.length) i.size hvs (fun j u hj => by
        have hjl : j < (olds ++ us).length := (List.getElem?_eq_some_iff.1 hj).1
        rw [hob, Array.getElem?_append_left (by simpa using hjl)]
        simpa using hj)
      have hE := ext_owned W.drew (olds ++ us) (xs.length + ys.length) i.size ob.size (.tok (xs.length + ys.length))
      refine ⟨_, _, rfl, ?_, hW, hE⟩
      have hflat : (xs ++ ys).flatMap AV.cells = xs.flatMap AV.cells ++ ys.flatMap AV.cells := List.flatMap_append
      have hall : LR (m.owned w.heap.size (olds ++ us) h.next i.size ob.size) ((xs ++ ys).flatMap AV.cells) (olds ++ us) := by
        rw [hflat]; exact (hoLR.append hLR).mono hE.le
      have hlen : xs.length + ys.length = (xs ++ ys).length := by simp
      rw [hlen]
      refine .sl _ _ _ _ 0 nc i.size ?_ hall.1 hall.2 (fun j u hj => ?_) (by rw [hflat, List.all_append, hokx, hokys]; rfl) (by simp; omega) (fun hh => by cases hh) (fun t' e' hh => ?_)
      · intro x hx
        rcases List.mem_append.1 hx with hx | hx
        · exact hxs x hx
        · exact hys x hx
      · simp only [Mem.owned, World.size_drew, if_true, Nat.zero_add]; exact hj
      · cases hh
        refine ⟨by simp [Mem.owned], T.one, by simp, ?_⟩
        simp only [Mem.owned, World.size_drew, if_true, Nat.zero_add]
        rw [hob]
        simp only [Array.size_append, List.size_toArray, hol, hul, size_zeroCells, T.zsize]
        rw [Nat.sub_mul, Nat.add_mul]
        have : (xs.length + ys.length) * i.size ≤ nc * i.size := Nat.mul_le_mul_right _ hnc
        rw [Nat.add_mul] at this
        omega
    rcases hx with ⟨rfl, rfl⟩ | hx
    · have hrun := run_append_nil (P := P) w t ty e i z T.und T.info T.zero b ys.length cap us hul hcell hlen0 (by omega) (by simp at hbytes; omega)
      obtain ⟨m', w', rfl, k1, k2, k3⟩ := fin [] (grownCap w ys.length 0 e) _ [] rfl (by simp) (LR.nil m) rfl (by simp) (by simpa using grownCap_ge w ys.length 0 e) rfl
      refine ⟨_, m', _, hrun, ?_, ?_, k3⟩
      · simpa using k1
      · simpa using k2
    · cases hx with
      | sl _ _ vs b0 off0 cap0 sz hs0 hl0 hc0 him0 hok0 hcap0 hf0 ho0 =>
        have hcapeq := hf0 rfl
        have hxs : ∀ x ∈ xs, x.cells.length = i.size := by
          intro x hx
          cases xs with
          | nil => cases hx
          | cons y r =>
            have h1 : y.cells.length = i.size := Nat.eq_of_beq_eq_true hc2
            have h2 := hs0 y (by simp)
            rw [hs0 x hx, ← h2]; exact h1
        have hvl : vs.length = xs.length * i.size := by rw [← hl0, flat_length xs _ hxs]
        have hrun := run_append_grow (P := P) w t ty e i z T.und T.info T.zero ⟨b0, off0, none⟩ xs.length cap0 vs hvl (fun j u hj => by rw [addr_add]; exact W.imm _ _ _ (him0 j u hj)) b ys.length cap us hul hcell
          (by omega) (by omega) (growslice_fits (by omega) (by omega))
        obtain ⟨m', w', rfl, k1, k2, k3⟩ := fin vs (grownCap w (xs.length + ys.length) cap0 e) _ xs rfl hvl ⟨hl0, hc0⟩ hok0 hxs (grownCap_ge w _ _ e) rfl
        exact ⟨_, m', _, hrun, k1, k2, k3⟩
  · cases hr

theorem appOpn_sound (W : WR P genv B w₀ h m w) {t ty e : TypeId} {i : TypeInfo} {z : Value} (T : AppT P t e i z) {xs ys : List AV} (hne : ys ≠ []) (hys : ∀ y ∈ ys, y.cells.length = i.size) {x' : Value}
    (hs : Source m w i.size x' ys) {s' : Value} {tok q : Nat} (hx : VR m (.sl (.opn tok q) xs) s') {v : AV} {h' : Heap} (hr : appOpn h i.size tok q xs ys = .ok (v, h')) :
    ∃ v' m' w', (Builtin.append_ #[t, t] ty #[s', x']).run P w = .ok v' w' ∧ VR m' v v' ∧ WR P genv B w₀ h' m' w' ∧ Ext h m h' m' := by
  obtain ⟨hokys, a, len, cap, us, rfl, rfl, hsrc⟩ := hs
  obtain ⟨b, rfl, hul, hLR, hcell⟩ := hsrc hne hys
  simp only [appOpn] at hr
  split at hr
  · rename_i n hg
    split at hr
    · rename_i hcond
      cases hr
      simp only [Bool.and_eq_true] at hcond
      obtain ⟨⟨⟨hq1, hq2⟩, hc1⟩, hc2⟩ := hcond
      have hnq : n = q := Nat.eq_of_beq_eq_true hq1
      have hqx : q = xs.length := Nat.eq_of_beq_eq_true hq2
      subst hnq
      subst hqx
      have hmax : (xs.length + ys.length) * i.size ≤ 1073741824 := Nat.le_of_ble_eq_true hc1
      have hlen0 : 0 < ys.length := List.length_pos_iff.2 hne
      have hle1 : xs.length + ys.length ≤ (xs.length + ys.length) * i.size := Nat.le_mul_of_pos_right _ T.one
      have hbytes : (xs.length + ys.length) * i.bytes ≤ 1073741824 * 65536 := Nat.mul_le_mul (by omega) T.bytes
      cases hx with
      | sl _ _ vs b0 off0 cap0 sz hs0 hl0 hc0 him0 hok0 hcap0 hf0 ho0 =>
        obtain ⟨k1, k2, k3, k4⟩ := ho0 _ _ rfl
        have hoff : off0 = 0 := by omega
        subst hoff
        obtain ⟨o1, o2, o3, n', o4, o5, cs, et, o6, o7⟩ := W.own b0 tok sz k1
        rw [hg] at o4; cases o4
        have hsz : sz = i.size ∧ ∀ x ∈ xs, x.cells.length = i.size := by
          cases xs with
          | nil => cases hc2
          | cons y r =>
            have h1 : y.cells.length = i.size := Nat.eq_of_beq_eq_true hc2
            have h2 := hs0 y (by simp)
            have h3 : sz = i.size := by omega
            exact ⟨h3, fun x hx => by rw [hs0 x hx, h3]⟩
        obtain ⟨rfl, hxs⟩ := hsz
        have hvl : vs.length = xs.length * i.size := by rw [← hl0, flat_length xs _ hxs]
        have hflat : (xs ++ ys).flatMap AV.cells = xs.flatMap AV.cells ++ ys.flatMap AV.cells := List.flatMap_append
        have hlen : xs.length + ys.length = (xs ++ ys).length := by simp
        have hsizes : ∀ x ∈ xs ++ ys, x.cells.length = i.size := fun x hx => by
          rcases List.mem_append.1 hx with hx | hx
          · exact hxs x hx
          · exact hys x hx
        have hok2 : ((xs ++ ys).flatMap AV.cells).all AV.isCell = true := by rw [hflat, List.all_append, hok0, hokys]; rfl
        have hmul : (xs.length + ys.length) * i.size = xs.length * i.size + ys.length * i.size := Nat.add_mul _ _ _
        by_cases hroom : xs.length + ys.length ≤ cap0
        · -- in place
          have hcap : (xs.length + ys.length) * i.size ≤ cap0 * i.size := Nat.mul_le_mul_right _ hroom
          have hfit : xs.length * i.size + us.length ≤ cs.size := by rw [hul, o7]; omega
          have hrun := run_append_at (P := P) (w := w) t ty e i T.und T.info b0 xs.length cap0 cs et o6 b ys.length cap us hul hcell (flat_oneCell hLR hokys) hroom hfit
          obtain ⟨hW, hE⟩ := W.grow k1 hg o6 us hul hfit rfl
          refine ⟨_, _, _, hrun, ?_, hW, hE⟩
          have hall : LR (m.more b0 (xs.length * i.size) us) ((xs ++ ys).flatMap AV.cells) (vs ++ us) := by rw [hflat]; exact (LR.append ⟨hl0, hc0⟩ hLR).mono hE.le
          rw [hlen]
          refine .sl _ _ _ _ 0 cap0 i.size hsizes hall.1 hall.2 (fun j u hj => ?_) hok2 (by simp; omega) (fun hh => by cases hh) (fun t' e' hh => ?_)
          · rw [Nat.zero_add]
            by_cases hj' : j < xs.length * i.size
            · rw [List.getElem?_append_left (by omega)] at hj
              have := hE.le.imm _ _ _ (him0 j u hj)
              rwa [Nat.zero_add] at this
            · rw [List.getElem?_append_right (by omega), hvl] at hj
              have hjl : j - xs.length * i.size < us.length := (List.getElem?_eq_some_iff.1 hj).1
              simp only [Mem.more]
              rw [if_pos ⟨trivial, by omega, by omega⟩]; exact hj
          · cases hh
            refine ⟨(hE.le.own _ _ _ k1).1, T.one, by simp, ?_⟩
            rw [(hE.le.own _ _ _ k1).2]; exact k4
        · -- a new block
          have hrun := run_append_grow (P := P) w t ty e i z T.und T.info T.zero ⟨b0, 0, none⟩ xs.length cap0 vs hvl (fun j u hj => by rw [addr_add]; exact W.imm _ _ _ (him0 j u hj)) b ys.length cap us hul hcell
            (by omega) (by omega) (growslice_fits (by omega) (by omega))
          have hnc := grownCap_ge w (xs.length + ys.length) cap0 e
          generalize hnce : grownCap w (xs.length + ys.length) cap0 e = nc at hrun hnc
          generalize hob : (vs.toArray ++ us.toArray ++ Builtin.zeroCells z.cells (nc - (xs.length + ys.length))) = ob at hrun
          have hvs : (vs ++ us).length = (xs.length + ys.length) * i.size := by rw [List.length_append, hvl, hul, Nat.add_mul]
          obtain ⟨hW, hE⟩ := W.drew.newOwnedAt k1 hg ob e (vs ++ us) hvs (fun j u hj => by
            have hjl : j < (vs ++ us).length := (List.getElem?_eq_some_iff.1 hj).1
            rw [← hob, Array.getElem?_append_left (by simpa using hjl)]
            simpa using hj)
          refine ⟨_, _, _, hrun, ?_, hW, hE⟩
          have hall : LR (m.owned w.drew.heap.size (vs ++ us) tok i.size ob.size) ((xs ++ ys).flatMap AV.cells) (vs ++ us) := by rw [hflat]; exact (LR.append ⟨hl0, hc0⟩ hLR).mono hE.le
          rw [hlen]
          refine .sl _ _ _ _ 0 nc i.size hsizes hall.1 hall.2 (fun j u hj => ?_) hok2 (by simp; omega) (fun hh => by cases hh) (fun t' e' hh => ?_)
          · simp only [Mem.owned, World.size_drew, if_true, Nat.zero_add]; exact hj
          · cases hh
            refine ⟨by simp [Mem.owned], T.one, by simp, ?_⟩
            simp only [Mem.owned, World.size_drew, if_true, Nat.zero_add]
            rw [← hob]
            simp only [Array.size_append, List.size_toArray, hvl, hul, size_zeroCells, T.zsize]
            rw [Nat.sub_mul]
            have : (xs.length + ys.length) * i.size ≤ nc * i.size := Nat.mul_le_mul_right _ hnc
            omega
    · cases hr
  · cases hr

theorem append_sound (W : WR P genv B w₀ h m w) {t ty e : TypeId} {i : TypeInfo} {z : Value} (T : AppT P t e i z) {s x : AV} {s' x' : Value} (hs : VR m s s') (hx : VR m x x') {v : AV} {h' : Heap}
    (hr : appendA h i.size s x = .ok (v, h')) :
    ∃ v' m' w', (Builtin.append_ #[t, t] ty #[s', x']).run P w = .ok v' w' ∧ VR m' v v' ∧ WR P genv B w₀ h' m' w' ∧ Ext h m h' m' := by
  obtain ⟨ys, hys, hr⟩ := R.bind_ok hr
  have hsrc := elemsOf_sound W hx hys
  cases ys with
  | nil =>
    obtain ⟨_, a, len, cap, us, rfl, rfl, _⟩ := hsrc
    cases hs with
    | sl tk xs vs b off cap sz hs hl hc him hok hcap hf ho =>
      cases hr
      exact ⟨_, m, w, run_append_zero t ty e i T.und T.info _ _ _ hcap _ _, .sl tk xs vs b off cap sz hs hl hc him hok hcap hf ho, W, .refl _ _⟩
    | nilsl => cases hr; exact ⟨_, m, w, run_append_zero t ty e i T.und T.info _ _ _ (Nat.le_refl _) _ _, .nilsl, W, .refl _ _⟩
    | arr id off len cap b hb hlc => cases hr; exact ⟨_, m, w, run_append_zero t ty e i T.und T.info _ _ _ hlc _ _, .arr _ _ _ _ _ hb hlc, W, .refl _ _⟩
    | _ => cases hr
  | cons y r =>
    simp only at hr
    split at hr
    · cases hr
    · rename_i hc
      obtain ⟨_, hall⟩ := Bool.and_eq_true_iff.1 hc
      have hsz := allSize_spec hall
      cases s with
      | nilsl =>
        cases hs
        exact appNew_sound W T (by simp) hsz hsrc (.inl ⟨rfl, rfl⟩) hr
      | sl tk xs =>
        cases tk with
        | full => exact appNew_sound W T (by simp) hsz hsrc (.inr hs) hr
        | dead => cases hr
        | opn t e => exact appOpn_sound W T (by simp) hsz hsrc hs hr
      | _ => cases hr

end Go.Am
