/-
  LayoutNone: for every int, string and int the law returns true and leaves its arguments, where the package-level variables hold what the program's text lays. The row, and the tied card.
-/
import Derived.Test.YtobfakjhhpbdmaaGreatDoorRun
import Derived.Test.YtobfakjhhpbdmaaGreatDoorRows
import Derived.Test.YtobfakjhhpbdmaaGreatDoorCards
import Derived.Test.YtobfakjhhpbdmaaGreatDoorTie
import Derived.ProofKit
import Derived.OpenShut
import Derived.LaidMore
import Derived.LaidSub
import Derived.Lay
import Derived.Lib.Space
import Derived.Lib.LaidTab
import Derived.SevenTiedAt
import Derived.Stop.Joined
namespace Go.Proofs.YtobfakjhhpbdmaaGreatDoor
open Go.ChangeMaps Go.ChangeShapes Go.WideShapes Go.ChangeAt Go.RowKit Go.Am

theorem own : ownKnob Tryz.prog.godebug = none := by kernel_rfl
theorem ascii_global : Tryz.prog.globalNamed "strings.asciiSpace" = some 0 := by kernel_rfl

/-- What the row's condition says of the variable's cells. -/
theorem ascii_cells {W : World} (h : laidMetH Tryz.prog Rows.layoutNoneRow.laid W) :
    ∀ g cs, gEnv g = some cs → ∀ (i : Nat) v, (cs.map gval)[i]? = some v → W.cell? ⟨g, i, none⟩ = some v := by
  rw [MakeChecks.laidMetH_plain _ _ _ (by kernel_rfl)] at h
  have h1 := laidMet.filter (fun x => x.1 == "strings.asciiSpace") h
  have h2 : laidMet Tryz.prog [("strings.asciiSpace", Lib.tabData .u8 Lib.asciiSpaceTab)] W := by
    have e : (Rows.layoutNoneRow.laid.filter fun x => x.1 == "strings.asciiSpace") = [("strings.asciiSpace", Lib.tabData .u8 Lib.asciiSpaceTab)] := by kernel_rfl
    rw [e] at h1
    exact h1
  have ht : Lib.TabIs Tryz.prog W "strings.asciiSpace" .u8 Lib.asciiSpaceTab :=
    Lib.tabIs_of_head ascii_global (by kernel_rfl) Tryz.underlying230 Tryz.underlying5 (by kernel_rfl) (by kernel_rfl) h2
  intro g cs hg i v hv
  obtain ⟨rfl, rfl⟩ := gOne_some hg
  rw [World.var?_cell ascii_global ht i]
  have e : asciiA.map gval = Lib.asciiSpaceTab.map fun z => Value.int .u8 z := by kernel_rfl
  rw [e] at hv
  simpa using hv

set_option maxRecDepth 100000 in
theorem lifted (os : Os) (started : os.Started) (H : Type) (enc : TypeId × Value → H) :
    ReturnsInHanded {} Tryz.checked os 3 .any (fun w args => (Rows.layoutNoneSpec.pre enc Tryz.prog Tryz.f3 Rows.layoutNoneRow.domain false w args ∧ laidMetH Tryz.prog Rows.layoutNoneRow.laid w) ∧ sizedMet enc Tryz.prog Tryz.f3 (OpenSpec.ofChange Rows.layoutNoneSpec) false w args)
      (Rows.layoutNoneSpec.post enc Tryz.prog Tryz.f3 false true false false) := by
  refine returnsInHanded_of_change_and (C := Tryz.checked) (X := fun w _ => laidMetH Tryz.prog Rows.layoutNoneRow.laid w) (fun _ _ _ hh h => h.of_heap hh) own started (by kernel_rfl) Tryz.func3
    (ChangeSpec.witness_shaped (enc := enc) (C := Tryz.checked) (os := os) (X := fun w _ => laidMetH Tryz.prog Rows.layoutNoneRow.laid w) false (World.laidAll Tryz.prog os Rows.layoutNoneRow.laid) #[.int .i64 0, .string ⟨#[]⟩, .int .i64 0] 8 (World.laidAll_os _ _ _)
      (World.shaped_of_ZipB (by kernel_rfl) (by kernel_rfl)) (by kernel_rfl) (by kernel_rfl) (by kernel_rfl)
      (by rw [MakeChecks.laidMetH_plain _ _ _ (by kernel_rfl)]; exact laidMet_laidAll _ (by kernel_rfl) (by kernel_rfl))) ?_
  intro W base args ds gs before hval0 hW hc _ hL _
  have hval : ∀ (j : Nat) t v, Tryz.f3.params[j]? = some t → args[j]? = some v → Value.okWide Tryz.prog W .any base t v := hval0
  have hW' := hW
  obtain ⟨p, q, hA0, hV, rfl, _, _⟩ := hW
  have hA : DataW.TrodAll enc Tryz.prog W 0 (fun _ => true) true Tryz.f3.params.toList args.toList ds p := hA0
  rw [Tryz.params3] at hA hval
  obtain ⟨v0, v1, v2, d0, d1, d2, p0, p1, p2, rfl, rfl, rfl, h0, h1, h2⟩ := trodAll_three hA
  obtain ⟨rfl, rfl⟩ := trodVars_none hV
  obtain ⟨n, rfl, rfl, rfl, wn⟩ := open_int Tryz.underlying3 (hval 0 3 v0 rfl rfl) h0
  obtain ⟨s, rfl, rfl, rfl, ws⟩ := open_string Tryz.underlying9 (hval 1 9 v1 rfl rfl) h1
  obtain ⟨b, rfl, rfl, rfl, wb⟩ := open_int Tryz.underlying3 (hval 2 3 v2 rfl rfl) h2
  simp only [List.append_nil] at hW'
  obtain ⟨v, h', he, hv⟩ := comesTo_of (none_run n b s.data.toList)
  cases isTrueA_of hv
  have hargs : LR (gMem gEnv) [.int .i64 n, .str s.data.toList, .int .i64 b] (#[.int .i64 n, .string s, .int .i64 b] : Array Value).toList :=
    (((LR.nil _).cons (VR.int .i64 b)).cons (show VR _ (.str s.data.toList) (.string s) from VR.str s.data.toList)).cons (VR.int .i64 n)
  refine (calls_of_eval fTab_ok orc2_ok gEnv_ground he rfl hargs (ascii_cells hL)).mono fun e W' ⟨he, hb⟩ => ?_
  subst he
  exact ⟨_, rfl, _, _, _, [], [], [], hW', trodAll_mk1 (shut_bool Tryz.underlying4 true), trodAll_mk3 (shut_int Tryz.underlying3 wn) (shut_string Tryz.underlying9 ws) (shut_int Tryz.underlying3 wb), rfl, hb.frame _, fun h => by cases h⟩

theorem row_holds : Rows.LayoutNoneSaid :=
  OpenClaim.holds_of_wide 3 Tryz.f3 rfl rfl rfl rfl rfl rfl rfl ⟨rfl, rfl, rfl, rfl, rfl⟩ rfl rfl rfl rfl rfl (by kernel_rfl) Tryz.func3 (by kernel_rfl)
    (of_decide_eq_true (by kernel_rfl)) (by unfold Func.isWrapper; first | (rw [if_pos (by decide +kernel)]; kernel_rfl) | (rw [if_neg (by decide +kernel)]; exact ⟨rfl, rfl⟩))
    (fun os started H enc _ => lifted os started H enc)
theorem card_holds : Rows.LayoutNoneCardSaid :=
  Claim7.holds_tied_plain_at .later [] [.listed, .data] true (true, "d4df1c0a5b1a24b3d81c3082112cf187fcf41f5560fcd6f369ed8f7edf4f36fd") true row_holds (fun _ h => by cases h) (by kernel_rfl) (fun _ h => by cases h) layoutNone_row_tie rfl ⟨rfl, rfl⟩ (by kernel_rfl) rfl
    (fun f fn hf hfn => by
      obtain rfl : f = 3 := Option.some.inj ((show Tryz.prog.funcNamed "mjolner/mjolnerlaw13.LayoutNone" = some 3 by kernel_rfl).symm.trans hf) |>.symm
      obtain rfl : fn = Tryz.f3 := (Option.some.inj (Tryz.func3.symm.trans hfn)).symm
      exact ⟨by kernel_rfl, fun j t ht => by
        rw [Tryz.params3] at ht
        have hm : t ∈ [3, 9, 3] := by simpa using Array.mem_of_getElem? ht
        have hall : ([3, 9, 3].all fun u => !Tryz.prog.wantsStandIn u) = true := by kernel_rfl
        exact (show Tryz.prog.wantsStandIn t = false by simpa using List.all_eq_true.1 hall t hm)⟩)
    (by kernel_rfl)
#print axioms card_holds
end Go.Proofs.YtobfakjhhpbdmaaGreatDoor
