/- The law ParsePlaces is true for every input. -/
import Derived.Test.YtahfljfikfkpnaaGreatDoorM15
import Derived.Test.YtahfljfikfkpnaaGreatDoorM5
import Derived.Test.YtahfljfikfkpnaaGreatDoorM3
import Derived.WalkKit
import Derived.ProofKit
import Derived.OpenShut
import Derived.ChangeSame
import Derived.SevenTiedAt
import Derived.Test.YtahfljfikfkpnaaGreatDoorCards
import Derived.Test.YtahfljfikfkpnaaGreatDoorTie
set_option linter.unusedSectionVars false
set_option linter.unusedSimpArgs false
set_option linter.unusedVariables false
set_option maxHeartbeats 64000000
noncomputable section
namespace Go.Proofs.YtahfljfikfkpnaaGreatDoor.parsePlaces
open Go.ChangeShapes Go.WideShapes Go.ChangeAt Go.RowKit
theorem own:ownKnob Tryz.prog.godebug=none:=by kernel_rfl
theorem tiled:bf.yw Tryz.prog=true:=by kernel_rfl
theorem laidOut:laidOutB Tryz.prog=true:=by kernel_rfl
set_option maxRecDepth 100000 in
theorem told (B:Nat) (h:bf.ae) (xs:List bf.V) (az:bf.o4 Tryz.prog h B Tryz.f5.params.toList xs):bf.e9 Tryz.prog 5 xs h fun y _=>y=.bool true:=by rw [Tryz.params5] at az;obtain ⟨a,gf,k,bG,n,rfl,ar,aV,U⟩:=bf.amQ az;obtain rfl:=bf.amR U;obtain ⟨cZ,rfl,_⟩:=bf.amS aV Tryz.underlying9;exact alM cZ h
set_option maxRecDepth 100000 in
theorem lifted (os:Os) (started:os.Started) (H:Type) (enc:TypeId × Value->H):
 ReturnsInHanded {} Tryz.checked os 5 .any (fun w args=>(Rows.parsePlacesSpec.pre enc Tryz.prog Tryz.f5 [] false w args/\laidMetH Tryz.prog Rows.parsePlacesRow.laid w)/\sizedMet enc Tryz.prog Tryz.f5 (OpenSpec.ofChange Rows.parsePlacesSpec) false w args)
  (Rows.parsePlacesSpec.post enc Tryz.prog Tryz.f5 false true false false):=by
 refine bf.amn (C:=Tryz.checked) (X:=fun w _=>laidMetH Tryz.prog Rows.parsePlacesRow.laid w) (fun _ _ _ ba h=>h.of_heap ba) own started (by kernel_rfl) Tryz.func5
  (ChangeSpec.witness_shaped (enc:=enc) (C:=Tryz.checked) (os:=os) (X:=fun w _=>laidMetH Tryz.prog Rows.parsePlacesRow.laid w) false (World.laidAll Tryz.prog os Rows.parsePlacesRow.laid) #[.string ⟨#[]⟩] 8 (World.laidAll_os _ _ _)
    (World.shaped_of_ZipB (by kernel_rfl) (by kernel_rfl)) (by kernel_rfl) (by kernel_rfl) (by kernel_rfl)
    (by rw [MakeChecks.laidMetH_plain _ _ _ (by kernel_rfl)];exact laidMet_laidAll _ (by kernel_rfl) (by kernel_rfl))) ?_
 intro W base args ds gs before Ci nb dU Ce;rw [MakeChecks.laidMetH_plain _ _ _ (by kernel_rfl)] at dU;refine bf.aiA (N9:=4) tiled laidOut (by kernel_rfl) rfl (by kernel_rfl) Tryz.underlying4 (fun ds aD=>?_) (told _) (aqh _) (ai7 (fun _ h=>h) dU Ce) rj ⟨_,Tryz.func5,by kernel_rfl⟩ Ci nb
 match ds,aD with
 | [d1],_=>rfl
theorem over:Rows.parsePlacesRow.holds Tryz.pinned (OpenSpec.ofChange Rows.parsePlacesSpec):=
 OpenClaim.holds_of_wide 5 Tryz.f5 rfl rfl rfl rfl rfl rfl rfl ⟨rfl,rfl,rfl,rfl,rfl⟩ rfl rfl rfl rfl rfl (by kernel_rfl) Tryz.func5 (by kernel_rfl)
  (of_decide_eq_true (by kernel_rfl)) (by unfold Func.isWrapper;first | (rw [aqw (by decide +kernel)];kernel_rfl) | (rw [aqr (by decide +kernel)];exact ⟨rfl,rfl⟩))
  (fun os started H enc _=>lifted os started H enc)
theorem proved:Rows.ParsePlacesCardSaid:=
 Claim7.holds_tied_plain_at .later [] [.data,.data,.data,.data,.sentinel,.sentinel,.pinned] true (true, "ac05073d2c4cf4411c7cb45fa96dc6b8e9b1754c4681eeb96a0d8556fee0f65c") true
  over (fun _ h=>by cases h) (by kernel_rfl) (fun _ h=>by cases h) parsePlaces_row_tie rfl ⟨rfl,rfl⟩ (by kernel_rfl) rfl
  (fun f fn aA hL=>by
    obtain rfl:f=5:=arB ((show Tryz.prog.funcNamed "gimlet/gimletlaw17.ParsePlaces"=some 5 by kernel_rfl).symm.trans aA) |>.symm;obtain rfl:fn=Tryz.f5:=(arB (Tryz.func5.symm.trans hL)).symm
    exact ⟨by kernel_rfl,fun j t aB=>by
     rw [Tryz.params5] at aB;have hm:t ∈ [9]:=by simpa using Array.mem_of_getElem? aB
     have e_:([9].all fun u=>!Tryz.prog.wantsStandIn u)=true:=by kernel_rfl
     exact (show Tryz.prog.wantsStandIn t=false by simpa using aqR.1 e_ t hm)⟩)
  (by kernel_rfl)
#print axioms proved
end Go.Proofs.YtahfljfikfkpnaaGreatDoor.parsePlaces
