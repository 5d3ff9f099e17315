/- MatchKnown: the chapter's examples of match are answered as it says. -/
import Derived.Test.YtgmhjhgoamjeeaaGreatDoorM20
import Derived.Test.YtgmhjhgoamjeeaaGreatDoorM22
import Derived.Test.YtgmhjhgoamjeeaaGreatDoorM5
import Derived.Test.YtgmhjhgoamjeeaaGreatDoorM3
import Derived.WalkKit
import Derived.ProofKit
import Derived.OpenShut
import Derived.ChangeSame
import Derived.SevenTiedAt
import Derived.Deep.DeepHandedRow
import Derived.Test.YtgmhjhgoamjeeaaGreatDoorCards
import Derived.Test.YtgmhjhgoamjeeaaGreatDoorTie
set_option linter.unusedSectionVars false
set_option linter.unusedSimpArgs false
set_option linter.unusedVariables false
set_option maxHeartbeats 64000000
noncomputable section
namespace Go.Proofs.YtgmhjhgoamjeeaaGreatDoor.matchKnown
open Go.ChangeShapes Go.WideShapes Go.ChangeAt Go.RowKit
theorem own:ownKnob Tryz.prog.godebug=none:=by kernel_rfl
theorem tiled:aX.zx Tryz.prog=true:=by kernel_rfl
theorem laidOut:laidOutB Tryz.prog=true:=by kernel_rfl
theorem told (w:World) (hw:aX.Lay.ok w):Calls Tryz.prog 5 #[] w fun e w'=>e=.returned (.bool true)/\Below w.heap.size w w':=
 aX.Zy (H:=Unit) (enc:=fun _=>()) (base:=0) (sp:=fun _=>true) (held:=true) (bq:=[]) (ag:=[]) (ds:=[]) (p:=[]) (r:=.any) (ow:=0) tiled laidOut (fun t aE=>by cases aE) (fun j t v h=>by simp at h) rfl hw yW ⟨_,Tryz.func5,by kernel_rfl⟩ fun h xs q=>by obtain rfl:=aX.alJ q;obtain ⟨v,ab,c,k,_⟩:=ahV h;exact ⟨v,ab,c,k⟩
set_option maxRecDepth 100000 in
theorem lifted (os:Os) (started:os.Started) (H:Type) (enc:TypeId × Value->H):
 ReturnsInHanded {} Tryz.checked os 5 .any (fun w args=>(Rows.matchKnownSpec.pre enc Tryz.prog Tryz.f5 [] false w args/\laidMetH Tryz.prog Rows.matchKnownRow.laid w)/\sizedMet enc Tryz.prog Tryz.f5 (OpenSpec.ofChange Rows.matchKnownSpec) false w args)
  (Rows.matchKnownSpec.post enc Tryz.prog Tryz.f5 false true false false):=by
 refine aX.ak_ (C:=Tryz.checked) (X:=fun w _=>laidMetH Tryz.prog Rows.matchKnownRow.laid w) (fun _ _ _ a' h=>h.of_heap a') own started (by kernel_rfl) Tryz.func5
  (ChangeSpec.witness_shaped (enc:=enc) (C:=Tryz.checked) (os:=os) (X:=fun w _=>laidMetH Tryz.prog Rows.matchKnownRow.laid w) false (World.laidAll Tryz.prog os Rows.matchKnownRow.laid) #[] 8 (World.laidAll_os _ _ _)
    (World.shaped_of_ZipB (by kernel_rfl) (by kernel_rfl)) (by kernel_rfl) (by kernel_rfl) (by kernel_rfl)
    (by rw [MakeChecks.laidMetH_plain _ _ _ (by kernel_rfl)];exact laidMet_laidAll _ (by kernel_rfl) (by kernel_rfl))) ?_
 intro W base args ds gs before Bu yg df Br;rw [MakeChecks.laidMetH_plain _ _ _ (by kernel_rfl)] at df;exact aX.ZZ (Cw:=4) (by kernel_rfl) rfl (by kernel_rfl) Tryz.underlying4 rfl told (aiv (fun _ h=>h) df Br) yg
theorem cX:Tryz.pinned.checked.prog.funcNamed Rows.matchKnownRow.func=some 5:=by kernel_rfl
theorem ck:joinedFacts Tryz.pinned.checked.prog 5 Tryz.f5 Rows.matchKnownSpec Rows.matchKnownRow=true:=by kernel_rfl
theorem kK:Func.isInstance Tryz.pinned.checked.prog Tryz.f5 Rows.matchKnownRow.origin Rows.matchKnownRow.targs:=of_decide_eq_true (by kernel_rfl)
theorem sZ:Func.isWrapper Tryz.pinned.checked.prog Tryz.f5 Rows.matchKnownRow.wrapper Rows.matchKnownRow.mainSum:=by unfold Func.isWrapper;first | (rw [apz (by decide +kernel)];kernel_rfl) | (rw [apw (by decide +kernel)];exact ⟨rfl,rfl⟩)
theorem over:Rows.matchKnownRow.holds Tryz.pinned (OpenSpec.ofChange Rows.matchKnownSpec):=
 OpenClaim.holds_of_wide 5 Tryz.f5 rfl rfl rfl rfl rfl rfl rfl ⟨rfl,rfl,rfl,rfl,rfl⟩ rfl rfl rfl rfl rfl cX Tryz.func5 ck kK sZ
  (fun os started H enc _=>lifted os started H enc)
theorem proved:Rows.MatchKnownCardSaid:=
 Claim7.holds_tied_plain_at .later [] [.data,.data,.data,.data,.sentinel,.sentinel,.pinned] true (true, "e5839d4b1bf30a1bdf932ce6c94dd6e8513916d7e6920b2fc84b52551d937462") true
  over (fun _ h=>by cases h) (by kernel_rfl) (fun _ h=>by cases h) matchKnown_row_tie rfl ⟨rfl,rfl⟩ (by kernel_rfl) rfl
  (fun f fn av ho=>by
    obtain rfl:f=5:=aqB ((show Tryz.prog.funcNamed "gimlet/gimletlaw24.MatchKnown"=some 5 by kernel_rfl).symm.trans av) |>.symm;obtain rfl:fn=Tryz.f5:=(aqB (Tryz.func5.symm.trans ho)).symm
    exact ⟨by kernel_rfl,fun j t aE=>by rw [Tryz.params5] at aE;simp at aE⟩)
  (by kernel_rfl)
#print axioms proved
end Go.Proofs.YtgmhjhgoamjeeaaGreatDoor.matchKnown
