/- PrintTells: which text a program has, and which words (parts of bulk at most 1,048,576). -/
import Derived.Test.YtefceblncmdkhaaGreatDoorM14
import Derived.Test.YtefceblncmdkhaaGreatDoorM16
import Derived.Test.YtefceblncmdkhaaGreatDoorM5
import Derived.WalkKit
import Derived.ProofKit
import Derived.OpenShut
import Derived.ChangeSame
import Derived.SevenTiedAt
import Derived.Deep.DeepHandedRow
import Derived.Test.YtefceblncmdkhaaGreatDoorCards
import Derived.Test.YtefceblncmdkhaaGreatDoorTie
set_option linter.unusedSectionVars false
set_option linter.unusedSimpArgs false
set_option linter.unusedVariables false
set_option maxHeartbeats 64000000
noncomputable section
namespace Go.Proofs.YtefceblncmdkhaaGreatDoor.printTells
open Go.ChangeShapes Go.WideShapes Go.ChangeAt Go.RowKit
theorem own:ownKnob Tryz.prog.godebug=none:=by kernel_rfl
theorem tiled:bb.xj Tryz.prog=true:=by kernel_rfl
theorem laidOut:laidOutB Tryz.prog=true:=by kernel_rfl
mutual
theorem DG {H:Type}:∀d:DataW H,Rows.uptoBulk d=bb.gD d
 | .lit l=>by cases l<;>simp only [Rows.uptoBulk,bb.gD]
 | .nil=>by simp only [Rows.uptoBulk,bb.gD]
 | .ptr d=>by simp only [Rows.uptoBulk,bb.gD,DG d]
 | .slice e s=>by simp only [Rows.uptoBulk,bb.gD,AI e,AI s]
 | .agg p=>by simp only [Rows.uptoBulk,bb.gD,AI p]
 | .iface _ d=>by simp only [Rows.uptoBulk,bb.gD,DG d]
 | .map e=>by simp only [Rows.uptoBulk,bb.gD,My e]
 | .held _=>by simp only [Rows.uptoBulk,bb.gD]
theorem AI {H:Type}:∀l:List (DataW H),Rows.uptoBulkAll l=bb.ng l
 | []=>rfl
 | d::r=>by simp only [Rows.uptoBulkAll,bb.ng,DG d,AI r]
theorem My {H:Type}:∀l:List (Lit × DataW H),Rows.uptoBulkEntries l=bb.DF l
 | []=>rfl
 | x::r=>by simp only [Rows.uptoBulkEntries,bb.DF,Xh x,My r]
theorem Xh {H:Type}:∀x:Lit × DataW H,Rows.uptoBulkEntry x=bb.Hp x
 | (l,d)=>by cases l<;>simp only [Rows.uptoBulkEntry,bb.Hp,DG d]
end
theorem bound {H:Type} {l:List (DataW H)} (ay:Rows.uptoSmall H l=true):bb.ng l<=1048576:=by rw [<-AI];simpa [Rows.uptoSmall] using ay
set_option maxRecDepth 100000 in
theorem told (h:bb.ah) (xs:List bb.V) (aL:bb.oK Tryz.prog h 1048576 Tryz.f3.params.toList xs):bb.b8 Tryz.prog 3 xs h fun y _=>y=.bool true:=by rw [Tryz.params3] at aL;obtain ⟨a,fN,k,bu,n,rfl,ay,a6,J⟩:=bb.akf aL;obtain rfl:=bb.akg J;obtain ⟨eN,len,g⟩:=bb.akh a6 Tryz.underlying22 DK (by decide);obtain ⟨l,ls,L⟩:=aiE g (by omega);exact akQ l (by omega) a h L
theorem witness {H:Type} {enc:TypeId × Value->H} {C:Checked} {os:Os} {f:FuncId} {fn:Func} {s:OpenSpec} {conds:List PathCond} {apart:Bool} {laid:List (String × DataW Unit)} (modest:Bool) (aB:World) (args:Array Value) (pv:aB.os=os)
 (BB:(aB.forCall (fun _ _=>0) ⟨#[],args,[]⟩).Shaped C.prog)
 (bz:Input.okWideB C.prog (aB.forCall (fun _ _=>0) ⟨#[],args,[]⟩) f ⟨#[],args,[]⟩=true)
 (adi:s.preRow enc C.prog fn conds apart laid (aB.forCall (fun _ _=>0) ⟨#[],args,[]⟩).memory args):
 ∃(w:World) (tape:Tape) (i:Input),w.os=os/\(w.forCall tape i).Shaped C.prog/\i.vars=[]/\Input.okWide C.prog (w.forCall tape i) .any w.heap.size f i/\
  s.preRow enc C.prog fn conds apart laid (w.forCall tape i).memory i.args/\({modest:=modest}:Assume).holds C.prog (lone (Frame.enter C.prog f i.args .normal) [] (w.forCall tape i)):=
 ⟨aB,fun _ _=>0,⟨#[],args,[]⟩,pv,BB,(Input.okWide_of_okWideB (base:=0) bz).1,(Input.okWide_of_okWideB bz).2,adi,by
   simp only [Assume.holds]
   exact ⟨by simp,by simp,fun _=>Modest.zero,by simp,by simp⟩⟩
set_option maxRecDepth 100000 in
theorem lifted (os:Os) (started:os.Started) (H:Type) (enc:TypeId × Value->H) (F:Stop.Interp):
 ReturnsInHanded {} Tryz.checked os 3 .any ((Rows.OpenSpec.upto Rows.printTellsSpec).preRow enc Tryz.prog Tryz.f3 Rows.printTellsUptoRow.domain false Rows.printTellsUptoRow.laid) (((Rows.OpenSpec.upto Rows.printTellsSpec).at F).post enc Tryz.prog Tryz.f3 false true false false):=by
 refine returnsInHanded_of_row (C:=Tryz.checked) (s:=Rows.OpenSpec.upto Rows.printTellsSpec) own started (by kernel_rfl) Tryz.func3
  (witness (enc:=enc) (C:=Tryz.checked) (os:=os) false (World.laidAll Tryz.prog os Rows.printTellsUptoRow.laid) #[.slice none 0 0] (World.laidAll_os _ _ _)
    (World.shaped_of_ZipB (by kernel_rfl) (by kernel_rfl)) (by kernel_rfl)
    (OpenSpec.preRow_of_cond 8 (x:=([.nil],[],[])) (by kernel_rfl) (by kernel_rfl) (fun k ay=>by cases ay;kernel_rfl) (by kernel_rfl)
      (by rw [MakeChecks.laidMetH_plain _ _ _ (by kernel_rfl)];exact laidMet_laidAll _ (by kernel_rfl) (by kernel_rfl)))) ?_
 intro W base args ds gs before Jp ym _ ay _ cB BB _;rw [MakeChecks.laidMetH_plain _ _ _ (by kernel_rfl)] at cB;refine bb.agF (s:=Rows.printTellsSpec) (Le:=4) tiled laidOut (by kernel_rfl) rfl (by kernel_rfl) Tryz.underlying4 (fun ds aw=>?_) told (bound (ay _ rfl)) (ag_ (fun _ h=>h) cB BB) uB ⟨_,Tryz.func3,by kernel_rfl⟩ Jp ym
 match ds,aw with
 | [d1],_=>rfl
theorem over:Rows.printTellsUptoRow.holds Tryz.pinned (Rows.OpenSpec.upto Rows.printTellsSpec):=
 OpenClaim.holds_of_cond 3 Tryz.f3 rfl rfl rfl rfl rfl rfl rfl ⟨rfl,rfl,rfl,rfl,rfl⟩ rfl rfl rfl rfl rfl (by kernel_rfl) Tryz.func3 (by kernel_rfl)
  (of_decide_eq_true (by kernel_rfl)) (by unfold Func.isWrapper;first | (rw [anL (by decide +kernel)];kernel_rfl) | (rw [anE (by decide +kernel)];exact ⟨rfl,rfl⟩))
  (fun os started H enc _ F=>by rw [OpenClaim.pre_eq_preRow];exact lifted os started H enc F)
theorem plain (f:FuncId) (fn:Func) (aA:Tryz.pinned.checked.prog.funcNamed "gimlet/gimletlaw18.PrintTells"=some f) (ig:Tryz.pinned.checked.prog.funcs[f]? =some fn):
 true=Tryz.pinned.checked.prog.looks []/\∀(j:Nat) t,fn.params[j]? =some t->Tryz.pinned.checked.prog.wantsStandIn t=false:=by
 obtain rfl:f=3:=aoN ((show Tryz.prog.funcNamed "gimlet/gimletlaw18.PrintTells"=some 3 by kernel_rfl).symm.trans aA) |>.symm;obtain rfl:fn=Tryz.f3:=(aoN (Tryz.func3.symm.trans ig)).symm;refine ⟨by kernel_rfl,fun j t aE=>?_⟩;rw [Tryz.params3] at aE;have hm:t ∈ [22]:=by simpa using Array.mem_of_getElem? aE
 have dx:([22].all fun u=>!Tryz.prog.wantsStandIn u)=true:=by kernel_rfl
 exact (show Tryz.prog.wantsStandIn t=false by simpa using an0.1 dx t hm)
theorem proved:Rows.PrintTellsUptoCardSaid:=
 Claim7.holds_tied_plain_at .later [] [.data,.data,.data,.data,.sentinel,.sentinel,.pinned] true (true, "576c6804fdd8b63f08cde9bc8f8fd76040cb9951028d94cffdcf89a5c5c969ad") true
  over (fun _ h=>by cases h) (by kernel_rfl) (fun _ h=>by cases h) printTellsUpto_row_tie rfl ⟨rfl,rfl⟩ (by kernel_rfl) rfl plain (by kernel_rfl)
#print axioms proved
end Go.Proofs.YtefceblncmdkhaaGreatDoor.printTells
