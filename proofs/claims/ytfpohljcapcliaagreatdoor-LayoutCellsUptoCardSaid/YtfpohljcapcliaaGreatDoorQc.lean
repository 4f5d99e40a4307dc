/- Parts of a proof. -/
import Derived.Test.YtfpohljcapcliaaGreatDoorT
import Derived.Test.YtfpohljcapcliaaGreatDoorR
import Derived.Test.YtfpohljcapcliaaGreatDoorZ2c
import Derived.Test.YtfpohljcapcliaaGreatDoorCards
import Derived.Test.YtfpohljcapcliaaGreatDoorTie
import Derived.ProofKit
import Derived.OpenShut
import Derived.Carry
import Derived.LaidMore
import Derived.LaidSub
import Derived.Lay
import Derived.Lib.Space
import Derived.Lib.LaidTab
import Derived.SevenTiedAt
import Derived.Stop.Joined
import Derived.Deep.DeepHandedRow
import Derived.Deep.DeepWitnessRowRef
import Derived.Test.YtfpohljcapcliaaGreatDoorOc
set_option linter.all false
set_option maxRecDepth 100000
noncomputable section
namespace Go.Proofs.YtfpohljcapcliaaGreatDoor
open Go Go.ChangeMaps Go.ChangeShapes Go.WideShapes Go.ChangeAt Go.RowKit Go.Am Go.Fs Go.Gn Go.Ly
theorem own:ownKnob Tryz.prog.godebug=none:=by kernel_rfl
theorem laidOut:laidOutB Tryz.prog=true:=by kernel_rfl
theorem yM:Tryz.prog.globalNamed "strings.asciiSpace" =some 0:=by kernel_rfl
theorem CF {W:World} (h:laidMetH Tryz.prog Rows.layoutCellsUptoRow.laid W):
  ∀g cs,yO g=some cs→∀(i:Nat) v,(cs.map Dc)[i]? =some v→W.cell? ⟨g,i,none⟩=some v:=by
 rw [MakeChecks.laidMetH_plain _ _ _ (by kernel_rfl)] at h
 have h1:=laidMet.filter (fun x=>x.1== "strings.asciiSpace") h
 have h2:laidMet Tryz.prog [("strings.asciiSpace",Lib.tabData .u8 Lib.asciiSpaceTab)] W:=by
  have e:(Rows.layoutCellsUptoRow.laid.filter fun x=>x.1== "strings.asciiSpace")=[("strings.asciiSpace",Lib.tabData .u8 Lib.asciiSpaceTab)]:=by kernel_rfl
  rw [e] at h1
  exact h1
 have ht:Lib.TabIs Tryz.prog W "strings.asciiSpace" .u8 Lib.asciiSpaceTab:=
  Lib.tabIs_of_head yM (by kernel_rfl) Tryz.underlying238 Tryz.underlying5 (by kernel_rfl) (by kernel_rfl) h2
 intro g cs hg i v hv
 obtain ⟨rfl,rfl⟩:=E9 hg
 rw [World.var?_cell yM ht i]
 have e:Go.Ly.N4.map Dc=Lib.asciiSpaceTab.map fun z=>Value.int .u8 z:=by kernel_rfl
 rw [e] at hv
 simpa using hv
theorem Hl {fns:Go.Am.F} (hF:uY Tryz.prog yO fns) {orc:Orc} (hO:qR Tryz.prog yO orc) (hH:Has fns (nH 172 yI orc)) {ws ss:List (List UInt8)} (hX:wU (nH 172 yI orc) ws ss) (hS:AN (nH 172 yI orc))
  (H:Type) (enc:TypeId×Value→H) (W:World) (base:Nat) (args:Array Value) (ds gs:List (DataW H)) (before:List MemPlace)
  (A9:∀(j:Nat) t v,Tryz.f3.params[j]? =some t→args[j]? =some v→Value.okWide Tryz.prog W .any base t v)
  (hW:DataW.Whole enc Tryz.prog Tryz.f3.params.toList Rows.layoutCellsSpec.vars false W args.toList ds gs before) (hk:Rows.uptoSmall H (ds++gs)=true) (hL:laidMetH Tryz.prog Rows.layoutCellsUptoRow.laid W) (hsh:W.ShapedOpen Tryz.prog):
  Calls Tryz.prog 3 args W fun e W' =>∃v,e= .returned v∧Rows.layoutCellsSpec.post enc Tryz.prog Tryz.f3 false true false false W args v W' :=by
 have hW' :=hW
 obtain ⟨p,q,hA0,hV,rfl,_,_⟩:=hW
 have hA:DataW.TrodAll enc Tryz.prog W 0 (fun _=>true) true Tryz.f3.params.toList args.toList ds p:=hA0
 rw [Tryz.params3] at hA A9
 obtain ⟨v0,vs0,d0,ds0,p0,q0,Cc,rfl,rfl,h0,r0⟩:=trodAll_cons hA
 obtain ⟨v1,vs1,d1,ds1,p1,q1,e1,rfl,rfl,h1,r1⟩:=trodAll_cons r0
 obtain ⟨rfl,rfl,rfl⟩:=trodAll_nil r1
 subst e1
 obtain rfl:args= #[v0,v1]:=by cases args;simp_all
 obtain ⟨rfl,rfl⟩:=trodVars_none hV
 obtain ⟨a,rfl,rfl,rfl,wa⟩:=open_int Tryz.underlying3 (A9 1 3 v1 rfl rfl) h1
 have hv0:=A9 0 26 v0 rfl rfl
 unfold Value.okWide at hv0
 rw [Tryz.underlying26] at hv0
 obtain ⟨cs,rfl,_,_⟩:=hv0
 have hlt:∀x∈p0,x.block<W.heap.size:=fun x hx=>hW'.lt x (by simp [hx])
 have h0' :=h0
 obtain ⟨fuel,hf⟩:=h0
 obtain ⟨ys,hLR,_,_,pd,hrv,HY⟩:=(Ry fuel).1 _ _ hf
 have hb:Rows.uptoBulk d0≤1048576:=by
  have:=of_decide_eq_true hk
  simp only [Rows.uptoBulkAll,List.cons_append] at this
  exact Nat.le_trans (Nat.le_add_right _ _) this
 have hb0:(Part.desc pd).nodes≤Rows.uptoBulk d0:=HY.1
 obtain ⟨m,hm⟩:=Tryz.GI W hsh
 have hO2:=SB (B:=W.heap.size) (World.block_lt_of_cell? W _ hm) hm (hO W.heap.size W)
 have hN:=OH hH (Lq (by unfold nH;rfl)) hX
 obtain ⟨h',n,he⟩:=L4 hH hN hS hrv (HY.2 hb) om a aD.empty
 have Cc:LR (AI W) [.agg ys,.int .i64 a] (#[.agg cs,.int .i64 a]:Array Value).toList:=
  ((LR.nil _).cons (VR.int .i64 a)).cons (VR.agg ys cs.toList hLR.1 hLR.2)
 refine (CD hF hO2 xO (he n (Nat.le_refl _)) rfl Cc (CF hL)).mono fun e W' ⟨he,hb⟩=> ?_
 subst he
 exact ⟨_,rfl,_,_,_,[],_,[],hW',trodAll_mk1 (shut_bool Tryz.underlying4 true),trodAll_cons_mk (Below.trod laidOut (by kernel_rfl) (of_decide_eq_true (by kernel_rfl)) h0' hb hlt) (trodAll_cons_mk (shut_int Tryz.underlying3 wa) trodAll_mk0),rfl,hb.frame _,fun h=>by cases h⟩
def EH:Array Value:= #[.agg #[.string ⟨#[]⟩,.slice none 0 0,.slice none 0 0,.slice none 0 0,.bool false,.slice none 0 0,.slice none 0 0],.int .i64 0]
def w0 (os:Os):World:=World.laidAll Tryz.prog os Rows.layoutCellsUptoRow.laid
theorem GO (os:Os):laidMet Tryz.prog Rows.layoutCellsUptoRow.laid ((w0 os).forCall (fun _ _=>0) ⟨#[],EH,[]⟩).memory:=laidMet_laidAll _ (by kernel_rfl) (by kernel_rfl)
theorem reads (os:Os) {H:Type} (enc:TypeId×Value→H):∃places,DataW.whole enc Tryz.prog ((w0 os).forCall (fun _ _=>0) ⟨#[],EH,[]⟩).memory Tryz.f3.params.toList Rows.layoutCellsSpec.vars false EH.toList 8=
  some ([.agg [.lit (.string []),.nil,.nil,.nil,.lit (.bool false),.nil,.nil],.lit (.int .i64 0)],[],places):=⟨[],by kernel_rfl⟩
theorem BB {H:Type} {enc:TypeId×Value→H} {C:Checked} {os:Os} {f:FuncId} {fn:Func} {s:OpenSpec} {conds:List PathCond} {apart:Bool} {laid:List (String×DataW Unit)} (modest:Bool) (w0:World) (args:Array Value) (hos:w0.os=os)
  (hsh:(w0.forCall (fun _ _=>0) ⟨#[],args,[]⟩).Shaped C.prog) (hok:Input.okWideB C.prog (w0.forCall (fun _ _=>0) ⟨#[],args,[]⟩) f ⟨#[],args,[]⟩=true)
  (WU:s.preRow enc C.prog fn conds apart laid (w0.forCall (fun _ _=>0) ⟨#[],args,[]⟩).memory args):
  ∃(w:World) (tape:Tape) (i:Input),w.os=os∧(w.forCall tape i).Shaped C.prog∧i.vars=[]∧Input.okWide C.prog (w.forCall tape i) .any w.heap.size f i∧
   s.preRow enc C.prog fn conds apart laid (w.forCall tape i).memory i.args∧({modest:=modest}:Assume).holds C.prog (lone (Frame.enter C.prog f i.args .normal) [] (w.forCall tape i)):=
 ⟨w0,fun _ _=>0,⟨#[],args,[]⟩,hos,hsh,(Input.okWide_of_okWideB (base:=0) hok).1,(Input.okWide_of_okWideB hok).2,WU,by
  simp only [Assume.holds]
  exact ⟨by simp,by simp,fun _=>Modest.zero,by simp,by simp⟩⟩
theorem lifted {fns:Go.Am.F} (hF:uY Tryz.prog yO fns) {orc:Orc} (hO:qR Tryz.prog yO orc) (hH:Has fns (nH 172 yI orc)) {ws ss:List (List UInt8)} (hX:wU (nH 172 yI orc) ws ss) (hS:AN (nH 172 yI orc))
  (os:Os) (started:os.Started) (H:Type) (enc:TypeId×Value→H) (F:Stop.Interp):
  ReturnsInHanded {} Tryz.checked os 3 .any ((Rows.OpenSpec.upto Rows.layoutCellsSpec).preRow enc Tryz.prog Tryz.f3 Rows.layoutCellsUptoRow.domain false Rows.layoutCellsUptoRow.laid) (((Rows.OpenSpec.upto Rows.layoutCellsSpec).at F).post enc Tryz.prog Tryz.f3 false true false false):=by
 obtain ⟨places,hx⟩:=reads os enc
 refine returnsInHanded_of_row (C:=Tryz.checked) (s:=Rows.OpenSpec.upto Rows.layoutCellsSpec) own started (by kernel_rfl) Tryz.func3
  (BB (enc:=enc) (C:=Tryz.checked) false (w0 os) EH (World.laidAll_os _ _ _) (World.shaped_of_ZipB (by kernel_rfl) (by kernel_rfl)) (by kernel_rfl)
   (OpenSpec.preRow_of_cond 8 hx (by kernel_rfl) (fun k hk=>by cases hk;kernel_rfl) (by kernel_rfl) (GO os))) ?_
 intro W base args ds gs before A9 hW _ zU _ hL hsh _
 exact Hl hF hO hH hX hS H enc W base args ds gs before A9 hW (zU _ rfl) hL hsh
end Go.Proofs.YtfpohljcapcliaaGreatDoor
namespace Go.Proofs.YtfpohljcapcliaaGreatDoor
open Go Go.ChangeMaps Go.ChangeShapes Go.WideShapes Go.ChangeAt Go.RowKit Go.Am Go.Fs Go.Gn Go.Ly
theorem MJ {fns:Go.Am.F} (hF:uY Tryz.prog yO fns) {orc:Orc} (hO:qR Tryz.prog yO orc) (hH:Has fns (nH 172 yI orc)) {ws ss:List (List UInt8)} (hX:wU (nH 172 yI orc) ws ss) (hS:AN (nH 172 yI orc)):Rows.LayoutCellsUptoSaid:=
 OpenClaim.holds_of_cond 3 Tryz.f3 rfl rfl rfl rfl rfl rfl rfl ⟨rfl,rfl,rfl,rfl,rfl⟩ rfl rfl rfl rfl rfl (by kernel_rfl) Tryz.func3 closed
  (of_decide_eq_true (by kernel_rfl)) (by unfold Func.isWrapper;first|(rw [if_pos (by decide+kernel)];kernel_rfl)|(rw [if_neg (by decide+kernel)];exact ⟨rfl,rfl⟩))
  (fun os started H enc _ F=>by rw [OpenClaim.pre_eq_preRow];exact lifted hF hO hH hX hS os started H enc F)
end Go.Proofs.YtfpohljcapcliaaGreatDoor
end
