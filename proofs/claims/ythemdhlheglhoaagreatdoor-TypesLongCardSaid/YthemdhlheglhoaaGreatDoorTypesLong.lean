/- The law TypesLong of the types chapter (long substitutions and deep types: the program and the document tell the same), proved by the abstract machine. -/
import Derived.Test.YthemdhlheglhoaaGreatDoorM17
import Derived.Test.YthemdhlheglhoaaGreatDoorM4
import Derived.WalkKit
import Derived.ProofKit
import Derived.OpenShut
import Derived.ChangeSame
import Derived.SevenTiedAt
import Derived.Test.YthemdhlheglhoaaGreatDoorCards
import Derived.Test.YthemdhlheglhoaaGreatDoorTie
set_option linter.unusedSectionVars false
set_option linter.unusedSimpArgs false
set_option linter.unusedVariables false
set_option maxHeartbeats 64000000
noncomputable section
namespace Go.Proofs.YthemdhlheglhoaaGreatDoor.typesLong
open Go.ChangeShapes Go.WideShapes Go.ChangeAt Go.RowKit
theorem own:ownKnob Tryz.prog.godebug=none:=by kernel_rfl
theorem tiled:a8.xy Tryz.prog=true:=by kernel_rfl
theorem laidOut:laidOutB Tryz.prog=true:=by kernel_rfl
set_option maxRecDepth 100000 in
theorem told (B:Nat) (h:a8.ah) (xs:List a8.V) (aS:a8.n0 Tryz.prog h B Tryz.f4.params.toList xs):a8.de Tryz.prog 4 xs h fun y _=>y=.bool true:=by rw [Tryz.params4] at aS;obtain ⟨a,fc,k,bg,n,rfl,aH,aW,aa⟩:=a8.Wv aS;obtain ⟨a2,api,bx,ap5,gP,rfl,Kk,ad,aJ⟩:=a8.Wv aa;obtain rfl:=a8.amV aJ;obtain ⟨amI,rfl,_⟩:=a8.Ww aW Tryz.underlying3;obtain ⟨s1,rfl,_⟩:=a8.Ww ad Tryz.underlying3;exact aj1 amI s1 h
set_option maxRecDepth 100000 in
theorem lifted (os:Os) (started:os.Started) (H:Type) (enc:TypeId × Value->H):
 ReturnsInHanded {} Tryz.checked os 4 .any (fun w args=>(Rows.typesLongSpec.pre enc Tryz.prog Tryz.f4 [] false w args/\laidMetH Tryz.prog Rows.typesLongRow.laid w)/\sizedMet enc Tryz.prog Tryz.f4 (OpenSpec.ofChange Rows.typesLongSpec) false w args)
  (Rows.typesLongSpec.post enc Tryz.prog Tryz.f4 false true false false):=by
 refine a8.amm (C:=Tryz.checked) (X:=fun w _=>laidMetH Tryz.prog Rows.typesLongRow.laid w) (fun _ _ _ bl h=>h.of_heap bl) own started (by kernel_rfl) Tryz.func4
  (ChangeSpec.witness_shaped (enc:=enc) (C:=Tryz.checked) (os:=os) (X:=fun w _=>laidMetH Tryz.prog Rows.typesLongRow.laid w) false (World.laidAll Tryz.prog os Rows.typesLongRow.laid) #[.int .i64 0,.int .i64 0] 8 (World.laidAll_os _ _ _)
    (World.shaped_of_ZipB (by kernel_rfl) (by kernel_rfl)) (by kernel_rfl) (by kernel_rfl) (by kernel_rfl)
    (by rw [MakeChecks.laidMetH_plain _ _ _ (by kernel_rfl)];exact laidMet_laidAll _ (by kernel_rfl) (by kernel_rfl))) ?_
 intro W base args ds gs before B0 v_ eL rh;rw [MakeChecks.laidMetH_plain _ _ _ (by kernel_rfl)] at eL;refine a8.ajh (Nc:=4) tiled laidOut (by kernel_rfl) rfl (by kernel_rfl) Tryz.underlying4 (fun ds aA=>?_) (told _) (Nat.le_refl _) (ajN (fun _ h=>h) eL rh) Cy ⟨_,Tryz.func4,by kernel_rfl⟩ B0 v_
 match ds,aA with
 | [d1,d2],_=>rfl
theorem over:Rows.typesLongRow.holds Tryz.pinned (OpenSpec.ofChange Rows.typesLongSpec):=
 OpenClaim.holds_of_wide 4 Tryz.f4 rfl rfl rfl rfl rfl rfl rfl ⟨rfl,rfl,rfl,rfl,rfl⟩ rfl rfl rfl rfl rfl (by kernel_rfl) Tryz.func4 (by kernel_rfl)
  (of_decide_eq_true (by kernel_rfl)) (by unfold Func.isWrapper;first | (rw [if_pos (by decide +kernel)];kernel_rfl) | (rw [if_neg (by decide +kernel)];exact ⟨rfl,rfl⟩))
  (fun os started H enc _=>lifted os started H enc)
theorem proved:Rows.TypesLongCardSaid:=
 Claim7.holds_tied_plain_at .later [] [.data,.data,.data,.data,.sentinel,.sentinel,.pinned] true (true, "fd282c945bc828b13af569b0c305e3ea8f7e6da945325eb930921411db30dfc6") true
  over (fun _ h=>by cases h) (by kernel_rfl) (fun _ h=>by cases h) typesLong_row_tie rfl ⟨rfl,rfl⟩ (by kernel_rfl) rfl
  (fun f fn az jQ=>by
    obtain rfl:f=4:=Option.some.inj ((show Tryz.prog.funcNamed "gimlet/gimletlaw19.TypesLong"=some 4 by kernel_rfl).symm.trans az) |>.symm;obtain rfl:fn=Tryz.f4:=(Option.some.inj (Tryz.func4.symm.trans jQ)).symm;exact ⟨by kernel_rfl,fun j t av=>by
     rw [Tryz.params4] at av;have hm:t ∈ [3]:=by simpa using Array.mem_of_getElem? av
     have ec:([3].all fun u=>!Tryz.prog.wantsStandIn u)=true:=by kernel_rfl
     exact (show Tryz.prog.wantsStandIn t=false by simpa using List.all_eq_true.1 ec t hm)⟩)
  (by kernel_rfl)
#print axioms proved
end Go.Proofs.YthemdhlheglhoaaGreatDoor.typesLong
