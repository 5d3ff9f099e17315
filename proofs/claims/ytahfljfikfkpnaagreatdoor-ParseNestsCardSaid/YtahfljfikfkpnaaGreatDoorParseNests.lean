/- ParseNests: brackets nest to a depth below a thousand, and the two parsers agree. -/
import Derived.Test.YtahfljfikfkpnaaGreatDoorM15
import Derived.Test.YtahfljfikfkpnaaGreatDoorM4
import Derived.WalkKit
import Derived.ProofKit
import Derived.OpenShut
import Derived.ChangeSame
import Derived.SevenTiedAt
import Derived.Test.YtahfljfikfkpnaaGreatDoorCards
import Derived.Test.YtahfljfikfkpnaaGreatDoorTie
set_option linter.unusedSectionVars false
set_option linter.unusedSimpArgs false
set_option linter.unusedVariables false
set_option maxHeartbeats 64000000
noncomputable section
namespace Go.Proofs.YtahfljfikfkpnaaGreatDoor.parseNests
open Go.ChangeShapes Go.WideShapes Go.ChangeAt Go.RowKit
theorem own:ownKnob Tryz.prog.godebug=none:=by kernel_rfl
theorem tiled:bg.ye Tryz.prog=true:=by kernel_rfl
theorem laidOut:laidOutB Tryz.prog=true:=by kernel_rfl
set_option maxRecDepth 100000 in
theorem told (B:Nat) (h:bg.ah) (xs:List bg.V) (al:bg.pK Tryz.prog h B Tryz.f4.params.toList xs):bg.dW Tryz.prog 4 xs h fun y _=>y=.bool true:=by rw [Tryz.params4] at al;obtain ⟨a,cb,k,bZ,n,rfl,aD,aL,ae⟩:=bg.Td al;obtain ⟨a2,anD,dZ,aoi,lI,rfl,tN,ag,ar⟩:=bg.Td ae;obtain rfl:=bg.ali ar;obtain ⟨ak4,rfl,_⟩:=bg.alk aL Tryz.underlying3;obtain ⟨a',rfl⟩:=bg.alj ag Tryz.underlying4;exact ahG ak4 a' h
set_option maxRecDepth 100000 in
theorem lifted (os:Os) (started:os.Started) (H:Type) (enc:TypeId × Value->H):
 ReturnsInHanded {} Tryz.checked os 4 .any (fun w args=>(Rows.parseNestsSpec.pre enc Tryz.prog Tryz.f4 [] false w args/\laidMetH Tryz.prog Rows.parseNestsRow.laid w)/\sizedMet enc Tryz.prog Tryz.f4 (OpenSpec.ofChange Rows.parseNestsSpec) false w args)
  (Rows.parseNestsSpec.post enc Tryz.prog Tryz.f4 false true false false):=by
 refine bg.akR (C:=Tryz.checked) (X:=fun w _=>laidMetH Tryz.prog Rows.parseNestsRow.laid w) (fun _ _ _ bM h=>h.of_heap bM) own started (by kernel_rfl) Tryz.func4
  (ChangeSpec.witness_shaped (enc:=enc) (C:=Tryz.checked) (os:=os) (X:=fun w _=>laidMetH Tryz.prog Rows.parseNestsRow.laid w) false (World.laidAll Tryz.prog os Rows.parseNestsRow.laid) #[.int .i64 0,.bool false] 8 (World.laidAll_os _ _ _)
    (World.shaped_of_ZipB (by kernel_rfl) (by kernel_rfl)) (by kernel_rfl) (by kernel_rfl) (by kernel_rfl)
    (by rw [MakeChecks.laidMetH_plain _ _ _ (by kernel_rfl)];exact laidMet_laidAll _ (by kernel_rfl) (by kernel_rfl))) ?_
 intro W base args ds gs before Cd qA gN xo;rw [MakeChecks.laidMetH_plain _ _ _ (by kernel_rfl)] at gN;refine bg.agv (Le:=4) tiled laidOut (by kernel_rfl) rfl (by kernel_rfl) Tryz.underlying4 (fun ds aH=>?_) (told _) (ao1 _) (ag4 (fun _ h=>h) gN xo) zV ⟨_,Tryz.func4,by kernel_rfl⟩ Cd qA
 match ds,aH with
 | [d1,d2],_=>rfl
theorem over:Rows.parseNestsRow.holds Tryz.pinned (OpenSpec.ofChange Rows.parseNestsSpec):=
 OpenClaim.holds_of_wide 4 Tryz.f4 rfl rfl rfl rfl rfl rfl rfl ⟨rfl,rfl,rfl,rfl,rfl⟩ rfl rfl rfl rfl rfl (by kernel_rfl) Tryz.func4 (by kernel_rfl)
  (of_decide_eq_true (by kernel_rfl)) (by unfold Func.isWrapper;first | (rw [ape (by decide +kernel)];kernel_rfl) | (rw [ao_ (by decide +kernel)];exact ⟨rfl,rfl⟩))
  (fun os started H enc _=>lifted os started H enc)
theorem proved:Rows.ParseNestsCardSaid:=
 Claim7.holds_tied_plain_at .later [] [.data,.data,.data,.data,.sentinel,.sentinel,.pinned] true (true, "ac05073d2c4cf4411c7cb45fa96dc6b8e9b1754c4681eeb96a0d8556fee0f65c") true
  over (fun _ h=>by cases h) (by kernel_rfl) (fun _ h=>by cases h) parseNests_row_tie rfl ⟨rfl,rfl⟩ (by kernel_rfl) rfl
  (fun f fn aE l4=>by
    obtain rfl:f=4:=aqu ((show Tryz.prog.funcNamed "gimlet/gimletlaw17.ParseNests"=some 4 by kernel_rfl).symm.trans aE) |>.symm;obtain rfl:fn=Tryz.f4:=(aqu (Tryz.func4.symm.trans l4)).symm
    exact ⟨by kernel_rfl,fun j t az=>by
     rw [Tryz.params4] at az;have hm:t ∈ [3,4]:=by simpa using Array.mem_of_getElem? az
     have gq:([3,4].all fun u=>!Tryz.prog.wantsStandIn u)=true:=by kernel_rfl
     exact (show Tryz.prog.wantsStandIn t=false by simpa using apA.1 gq t hm)⟩)
  (by kernel_rfl)
#print axioms proved
end Go.Proofs.YtahfljfikfkpnaaGreatDoor.parseNests
