/- PrintLong: a program whose text would have more than 65,536 bytes is refused, and one of so many is not (every input). -/
import Derived.Test.YtefceblncmdkhaaGreatDoorM16
import Derived.Test.YtefceblncmdkhaaGreatDoorM5
import Derived.Test.YtefceblncmdkhaaGreatDoorM3
import Derived.WalkKit
import Derived.ProofKit
import Derived.OpenShut
import Derived.ChangeSame
import Derived.SevenTiedAt
import Derived.Test.YtefceblncmdkhaaGreatDoorCards
import Derived.Test.YtefceblncmdkhaaGreatDoorTie
set_option linter.unusedSectionVars false
set_option linter.unusedSimpArgs false
set_option linter.unusedVariables false
set_option maxHeartbeats 64000000
noncomputable section
namespace Go.Proofs.YtefceblncmdkhaaGreatDoor.printLong
open Go.ChangeShapes Go.WideShapes Go.ChangeAt Go.RowKit
theorem own:ownKnob Tryz.prog.godebug=none:=by kernel_rfl
theorem tiled:bd.xg Tryz.prog=true:=by kernel_rfl
theorem laidOut:laidOutB Tryz.prog=true:=by kernel_rfl
set_option maxRecDepth 100000 in
theorem told (B:Nat) (h:bd.ah) (xs:List bd.V) (aM:bd.oJ Tryz.prog h B Tryz.f4.params.toList xs):bd.b' Tryz.prog 4 xs h fun y _=>y=.bool true:=by rw [Tryz.params4] at aM;obtain ⟨a,fF,k,bx,n,rfl,ay,a1,J⟩:=bd.ajQ aM;obtain rfl:=bd.ajR J;obtain ⟨ajH,rfl,_⟩:=bd.ajS a1 Tryz.underlying3;exact agT ajH h
set_option maxRecDepth 100000 in
theorem lifted (os:Os) (started:os.Started) (H:Type) (enc:TypeId × Value->H):
 ReturnsInHanded {} Tryz.checked os 4 .any (fun w args=>(Rows.printLongSpec.pre enc Tryz.prog Tryz.f4 [] false w args/\laidMetH Tryz.prog Rows.printLongRow.laid w)/\sizedMet enc Tryz.prog Tryz.f4 (OpenSpec.ofChange Rows.printLongSpec) false w args)
  (Rows.printLongSpec.post enc Tryz.prog Tryz.f4 false true false false):=by
 refine bd.aje (C:=Tryz.checked) (X:=fun w _=>laidMetH Tryz.prog Rows.printLongRow.laid w) (fun _ _ _ bo h=>h.of_heap bo) own started (by kernel_rfl) Tryz.func4
  (ChangeSpec.witness_shaped (enc:=enc) (C:=Tryz.checked) (os:=os) (X:=fun w _=>laidMetH Tryz.prog Rows.printLongRow.laid w) false (World.laidAll Tryz.prog os Rows.printLongRow.laid) #[.int .i64 0] 8 (World.laidAll_os _ _ _)
    (World.shaped_of_ZipB (by kernel_rfl) (by kernel_rfl)) (by kernel_rfl) (by kernel_rfl) (by kernel_rfl)
    (by rw [MakeChecks.laidMetH_plain _ _ _ (by kernel_rfl)];exact laidMet_laidAll _ (by kernel_rfl) (by kernel_rfl))) ?_
 intro W base args ds gs before Bp yg cG Bm;rw [MakeChecks.laidMetH_plain _ _ _ (by kernel_rfl)] at cG;refine bd.af_ (KW:=4) tiled laidOut (by kernel_rfl) rfl (by kernel_rfl) Tryz.underlying4 (fun ds ax=>?_) (told _) (am6 _) (agG (fun _ h=>h) cG Bm) uA ⟨_,Tryz.func4,by kernel_rfl⟩ Bp yg
 match ds,ax with
 | [d1],_=>rfl
theorem over:Rows.printLongRow.holds Tryz.pinned (OpenSpec.ofChange Rows.printLongSpec):=
 OpenClaim.holds_of_wide 4 Tryz.f4 rfl rfl rfl rfl rfl rfl rfl ⟨rfl,rfl,rfl,rfl,rfl⟩ rfl rfl rfl rfl rfl (by kernel_rfl) Tryz.func4 (by kernel_rfl)
  (of_decide_eq_true (by kernel_rfl)) (by unfold Func.isWrapper;first | (rw [anb (by decide +kernel)];kernel_rfl) | (rw [am7 (by decide +kernel)];exact ⟨rfl,rfl⟩))
  (fun os started H enc _=>lifted os started H enc)
theorem proved:Rows.PrintLongCardSaid:=
 Claim7.holds_tied_plain_at .later [] [.data,.data,.data,.data,.sentinel,.sentinel,.pinned] true (true, "576c6804fdd8b63f08cde9bc8f8fd76040cb9951028d94cffdcf89a5c5c969ad") true
  over (fun _ h=>by cases h) (by kernel_rfl) (fun _ h=>by cases h) printLong_row_tie rfl ⟨rfl,rfl⟩ (by kernel_rfl) rfl
  (fun f fn aA hM=>by
    obtain rfl:f=4:=an9 ((show Tryz.prog.funcNamed "gimlet/gimletlaw18.PrintLong"=some 4 by kernel_rfl).symm.trans aA) |>.symm;obtain rfl:fn=Tryz.f4:=(an9 (Tryz.func4.symm.trans hM)).symm
    exact ⟨by kernel_rfl,fun j t aE=>by
     rw [Tryz.params4] at aE;have hm:t ∈ [3]:=by simpa using Array.mem_of_getElem? aE
     have du:([3].all fun u=>!Tryz.prog.wantsStandIn u)=true:=by kernel_rfl
     exact (show Tryz.prog.wantsStandIn t=false by simpa using anr.1 du t hm)⟩)
  (by kernel_rfl)
#print axioms proved
end Go.Proofs.YtefceblncmdkhaaGreatDoor.printLong
