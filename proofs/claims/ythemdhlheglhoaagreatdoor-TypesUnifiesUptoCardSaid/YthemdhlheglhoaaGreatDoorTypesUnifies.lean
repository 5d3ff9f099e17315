/- The law TypesUnifies of the types chapter (types made the same: the program and the document tell the same), proved by the abstract machine. -/
import Derived.Test.YthemdhlheglhoaaGreatDoorM17
import Derived.Test.YthemdhlheglhoaaGreatDoorM19
import Derived.Test.YthemdhlheglhoaaGreatDoorM4
import Derived.WalkKit
import Derived.ProofKit
import Derived.OpenShut
import Derived.ChangeSame
import Derived.SevenTiedAt
import Derived.Deep.DeepHandedRow
import Derived.Test.YthemdhlheglhoaaGreatDoorCards
import Derived.Test.YthemdhlheglhoaaGreatDoorTie
set_option linter.unusedSectionVars false
set_option linter.unusedSimpArgs false
set_option linter.unusedVariables false
set_option maxHeartbeats 64000000
noncomputable section
namespace Go.Proofs.YthemdhlheglhoaaGreatDoor.typesUnifies
open Go.ChangeShapes Go.WideShapes Go.ChangeAt Go.RowKit
theorem own:ownKnob Tryz.prog.godebug=none:=by kernel_rfl
theorem tiled:a7.xA Tryz.prog=true:=by kernel_rfl
theorem laidOut:laidOutB Tryz.prog=true:=by kernel_rfl
mutual
theorem Ei {H:Type}:∀d:DataW H,Rows.uptoBulk d=a7.gm d
 | .lit l=>by cases l<;>simp only [Rows.uptoBulk,a7.gm]
 | .nil=>by simp only [Rows.uptoBulk,a7.gm]
 | .ptr d=>by simp only [Rows.uptoBulk,a7.gm,Ei d]
 | .slice e s=>by simp only [Rows.uptoBulk,a7.gm,A0 e,A0 s]
 | .agg p=>by simp only [Rows.uptoBulk,a7.gm,A0 p]
 | .iface _ d=>by simp only [Rows.uptoBulk,a7.gm,Ei d]
 | .map e=>by simp only [Rows.uptoBulk,a7.gm,Pz e]
 | .held _=>by simp only [Rows.uptoBulk,a7.gm]
theorem A0 {H:Type}:∀l:List (DataW H),Rows.uptoBulkAll l=a7.mr l
 | []=>rfl
 | d::r=>by simp only [Rows.uptoBulkAll,a7.mr,Ei d,A0 r]
theorem Pz {H:Type}:∀l:List (Lit × DataW H),Rows.uptoBulkEntries l=a7.Eh l
 | []=>rfl
 | x::r=>by simp only [Rows.uptoBulkEntries,a7.Eh,aas x,Pz r]
theorem aas {H:Type}:∀x:Lit × DataW H,Rows.uptoBulkEntry x=a7.Iz x
 | (l,d)=>by cases l<;>simp only [Rows.uptoBulkEntry,a7.Iz,Ei d]
end
theorem bound {H:Type} {l:List (DataW H)} (aH:Rows.uptoSmall H l=true):a7.mr l<=1048576:=by rw [<-A0];simpa [Rows.uptoSmall] using aH
set_option maxRecDepth 100000 in
theorem told (h:a7.ai) (xs:List a7.V) (aR:a7.n' Tryz.prog h 1048576 Tryz.f3.params.toList xs):a7.db Tryz.prog 3 xs h fun y _=>y=.bool true:=by rw [Tryz.params3] at aR;obtain ⟨a,fi,k,bj,n,rfl,aH,aX,aa⟩:=a7.WQ aR;obtain ⟨a2,apz,bx,aqm,fP,rfl,Kl,ad,aJ⟩:=a7.WQ aa;obtain rfl:=a7.am6 aJ;obtain ⟨hK,len,g⟩:=a7.WR aX Tryz.underlying22 A1 (by decide);obtain ⟨n3,aqr,g2⟩:=a7.WR ad Tryz.underlying22 A1 (by decide);obtain ⟨d',s1,H5⟩:=Vp g (by omega);obtain ⟨eK,s2,lg⟩:=Vp g2 (by omega);exact aon d' eK (by omega) (by omega) a a2 h H5 lg
theorem witness {H:Type} {enc:TypeId × Value->H} {C:Checked} {os:Os} {f:FuncId} {fn:Func} {s:OpenSpec} {conds:List PathCond} {apart:Bool} {laid:List (String × DataW Unit)} (modest:Bool) (az:World) (args:Array Value) (pc:az.os=os)
 (rj:(az.forCall (fun _ _=>0) ⟨#[],args,[]⟩).Shaped C.prog)
 (bK:Input.okWideB C.prog (az.forCall (fun _ _=>0) ⟨#[],args,[]⟩) f ⟨#[],args,[]⟩=true)
 (KU:s.preRow enc C.prog fn conds apart laid (az.forCall (fun _ _=>0) ⟨#[],args,[]⟩).memory args):
 ∃(w:World) (tape:Tape) (i:Input),w.os=os/\(w.forCall tape i).Shaped C.prog/\i.vars=[]/\Input.okWide C.prog (w.forCall tape i) .any w.heap.size f i/\
  s.preRow enc C.prog fn conds apart laid (w.forCall tape i).memory i.args/\({modest:=modest}:Assume).holds C.prog (lone (Frame.enter C.prog f i.args .normal) [] (w.forCall tape i)):=
 ⟨az,fun _ _=>0,⟨#[],args,[]⟩,pc,rj,(Input.okWide_of_okWideB (base:=0) bK).1,(Input.okWide_of_okWideB bK).2,KU,by simp only [Assume.holds];exact ⟨by simp,by simp,fun _=>Modest.zero,by simp,by simp⟩⟩
set_option maxRecDepth 100000 in
theorem lifted (os:Os) (started:os.Started) (H:Type) (enc:TypeId × Value->H) (F:Stop.Interp):
 ReturnsInHanded {} Tryz.checked os 3 .any ((Rows.OpenSpec.upto Rows.typesUnifiesSpec).preRow enc Tryz.prog Tryz.f3 Rows.typesUnifiesUptoRow.domain false Rows.typesUnifiesUptoRow.laid) (((Rows.OpenSpec.upto Rows.typesUnifiesSpec).at F).post enc Tryz.prog Tryz.f3 false true false false):=by
 refine returnsInHanded_of_row (C:=Tryz.checked) (s:=Rows.OpenSpec.upto Rows.typesUnifiesSpec) own started (by kernel_rfl) Tryz.func3
  (witness (enc:=enc) (C:=Tryz.checked) (os:=os) false (World.laidAll Tryz.prog os Rows.typesUnifiesUptoRow.laid) #[.slice none 0 0,.slice none 0 0] (World.laidAll_os _ _ _)
    (World.shaped_of_ZipB (by kernel_rfl) (by kernel_rfl)) (by kernel_rfl)
    (OpenSpec.preRow_of_cond 8 (x:=([.nil,.nil],[],[])) (by kernel_rfl) (by kernel_rfl) (fun k aH=>by cases aH;kernel_rfl) (by kernel_rfl)
      (by rw [MakeChecks.laidMetH_plain _ _ _ (by kernel_rfl)];exact laidMet_laidAll _ (by kernel_rfl) (by kernel_rfl)))) ?_
 intro W base args ds gs before K2 wa _ aH _ eO rj _;rw [MakeChecks.laidMetH_plain _ _ _ (by kernel_rfl)] at eO;refine a7.ajx (s:=Rows.typesUnifiesSpec) (Ni:=4) tiled laidOut (by kernel_rfl) rfl (by kernel_rfl) Tryz.underlying4 (fun ds ay=>?_) told (bound (aH _ rfl)) (aj3 (fun _ h=>h) eO rj) Cw ⟨_,Tryz.func3,by kernel_rfl⟩ K2 wa
 match ds,ay with
 | [d1,d2],_=>rfl
theorem over:Rows.typesUnifiesUptoRow.holds Tryz.pinned (Rows.OpenSpec.upto Rows.typesUnifiesSpec):=
 OpenClaim.holds_of_cond 3 Tryz.f3 rfl rfl rfl rfl rfl rfl rfl ⟨rfl,rfl,rfl,rfl,rfl⟩ rfl rfl rfl rfl rfl (by kernel_rfl) Tryz.func3 (by kernel_rfl)
  (of_decide_eq_true (by kernel_rfl)) (by unfold Func.isWrapper;first | (rw [if_pos (by decide +kernel)];kernel_rfl) | (rw [if_neg (by decide +kernel)];exact ⟨rfl,rfl⟩))
  (fun os started H enc _ F=>by rw [OpenClaim.pre_eq_preRow];exact lifted os started H enc F)
theorem plain (f:FuncId) (fn:Func) (aA:Tryz.pinned.checked.prog.funcNamed "gimlet/gimletlaw19.TypesUnifies"=some f) (kD:Tryz.pinned.checked.prog.funcs[f]? =some fn):
 true=Tryz.pinned.checked.prog.looks []/\∀(j:Nat) t,fn.params[j]? =some t->Tryz.pinned.checked.prog.wantsStandIn t=false:=by
 obtain rfl:f=3:=Option.some.inj ((show Tryz.prog.funcNamed "gimlet/gimletlaw19.TypesUnifies"=some 3 by kernel_rfl).symm.trans aA) |>.symm;obtain rfl:fn=Tryz.f3:=(Option.some.inj (Tryz.func3.symm.trans kD)).symm;refine ⟨by kernel_rfl,fun j t aw=>?_⟩;rw [Tryz.params3] at aw;have hm:t ∈ [22,22]:=by simpa using Array.mem_of_getElem? aw
 have eh:([22,22].all fun u=>!Tryz.prog.wantsStandIn u)=true:=by kernel_rfl
 exact (show Tryz.prog.wantsStandIn t=false by simpa using List.all_eq_true.1 eh t hm)
theorem proved:Rows.TypesUnifiesUptoCardSaid:=
 Claim7.holds_tied_plain_at .later [] [.data,.data,.data,.data,.sentinel,.sentinel,.pinned] true (true, "fd282c945bc828b13af569b0c305e3ea8f7e6da945325eb930921411db30dfc6") true
  over (fun _ h=>by cases h) (by kernel_rfl) (fun _ h=>by cases h) typesUnifiesUpto_row_tie rfl ⟨rfl,rfl⟩ (by kernel_rfl) rfl plain (by kernel_rfl)
#print axioms proved
end Go.Proofs.YthemdhlheglhoaaGreatDoor.typesUnifies
