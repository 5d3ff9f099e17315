/- ParseDeep: the parser and the restated parser agree on texts of any depth. -/
import Derived.Test.YtahfljfikfkpnaaGreatDoorM16
import Derived.Test.YtahfljfikfkpnaaGreatDoorM4
import Derived.WalkKit
import Derived.ProofKit
import Derived.OpenShut
import Derived.ChangeSame
import Derived.SevenTiedAt
import Derived.Deep.DeepHandedRow
import Derived.Test.YtahfljfikfkpnaaGreatDoorCards
import Derived.Test.YtahfljfikfkpnaaGreatDoorTie
set_option linter.unusedSectionVars false
set_option linter.unusedSimpArgs false
set_option linter.unusedVariables false
set_option maxHeartbeats 64000000
noncomputable section
namespace Go.Proofs.YtahfljfikfkpnaaGreatDoor.parseDeep
open Go.ChangeShapes Go.WideShapes Go.ChangeAt Go.RowKit
theorem own:ownKnob Tryz.prog.godebug=none:=by kernel_rfl
theorem tiled:ba.x_ Tryz.prog=true:=by kernel_rfl
theorem laidOut:laidOutB Tryz.prog=true:=by kernel_rfl
mutual
theorem DG {H:Type}:∀d:DataW H,Rows.uptoBulk d=ba.hE d
 | .lit l=>by cases l<;>simp only [Rows.uptoBulk,ba.hE]
 | .nil=>by simp only [Rows.uptoBulk,ba.hE]
 | .ptr d=>by simp only [Rows.uptoBulk,ba.hE,DG d]
 | .slice e s=>by simp only [Rows.uptoBulk,ba.hE,A6 e,A6 s]
 | .agg p=>by simp only [Rows.uptoBulk,ba.hE,A6 p]
 | .iface _ d=>by simp only [Rows.uptoBulk,ba.hE,DG d]
 | .map e=>by simp only [Rows.uptoBulk,ba.hE,Mu e]
 | .held _=>by simp only [Rows.uptoBulk,ba.hE]
theorem A6 {H:Type}:∀l:List (DataW H),Rows.uptoBulkAll l=ba.n1 l
 | []=>rfl
 | d::r=>by simp only [Rows.uptoBulkAll,ba.n1,DG d,A6 r]
theorem Mu {H:Type}:∀l:List (Lit × DataW H),Rows.uptoBulkEntries l=ba.DF l
 | []=>rfl
 | x::r=>by simp only [Rows.uptoBulkEntries,ba.DF,WH x,Mu r]
theorem WH {H:Type}:∀x:Lit × DataW H,Rows.uptoBulkEntry x=ba.G5 x
 | (l,d)=>by cases l<;>simp only [Rows.uptoBulkEntry,ba.G5,DG d]
end
theorem bound {H:Type} {l:List (DataW H)} (aD:Rows.uptoSmall H l=true):ba.n1 l<=1048576:=by rw [<-A6];simpa [Rows.uptoSmall] using aD
set_option maxRecDepth 100000 in
theorem told (h:ba.ah) (xs:List ba.V) (al:ba.pA Tryz.prog h 1048576 Tryz.f3.params.toList xs):ba.dY Tryz.prog 3 xs h fun y _=>y=.bool true:=by rw [Tryz.params3] at al;obtain ⟨a,b7,k,b0,n,rfl,aD,aM,ad⟩:=ba.S4 al;obtain ⟨a2,am_,dJ,anS,lE,rfl,tz,ag,ar⟩:=ba.S4 ad;obtain rfl:=ba.akT ar;obtain ⟨akE,rfl,_⟩:=ba.akU aM Tryz.underlying3;obtain ⟨mC,len,g⟩:=ba.akV ag Tryz.underlying22 cells3 (by decide);obtain ⟨p,L⟩:=open_ints g (by omega);exact deep_law akE p _ h L
theorem witness {H:Type} {enc:TypeId × Value->H} {C:Checked} {os:Os} {f:FuncId} {fn:Func} {s:OpenSpec} {conds:List PathCond} {apart:Bool} {laid:List (String × DataW Unit)} (modest:Bool) (aA:World) (args:Array Value) (nG:aA.os=os)
 (xj:(aA.forCall (fun _ _=>0) ⟨#[],args,[]⟩).Shaped C.prog)
 (br:Input.okWideB C.prog (aA.forCall (fun _ _=>0) ⟨#[],args,[]⟩) f ⟨#[],args,[]⟩=true)
 (adz:s.preRow enc C.prog fn conds apart laid (aA.forCall (fun _ _=>0) ⟨#[],args,[]⟩).memory args):
 ∃(w:World) (tape:Tape) (i:Input),w.os=os/\(w.forCall tape i).Shaped C.prog/\i.vars=[]/\Input.okWide C.prog (w.forCall tape i) .any w.heap.size f i/\
  s.preRow enc C.prog fn conds apart laid (w.forCall tape i).memory i.args/\({modest:=modest}:Assume).holds C.prog (lone (Frame.enter C.prog f i.args .normal) [] (w.forCall tape i)):=
 ⟨aA,fun _ _=>0,⟨#[],args,[]⟩,nG,xj,(Input.okWide_of_okWideB (base:=0) br).1,(Input.okWide_of_okWideB br).2,adz,by
   simp only [Assume.holds]
   exact ⟨by simp,by simp,fun _=>Modest.zero,by simp,by simp⟩⟩
set_option maxRecDepth 100000 in
theorem lifted (os:Os) (started:os.Started) (H:Type) (enc:TypeId × Value->H) (F:Stop.Interp):
 ReturnsInHanded {} Tryz.checked os 3 .any ((Rows.OpenSpec.upto Rows.parseDeepSpec).preRow enc Tryz.prog Tryz.f3 Rows.parseDeepUptoRow.domain false Rows.parseDeepUptoRow.laid) (((Rows.OpenSpec.upto Rows.parseDeepSpec).at F).post enc Tryz.prog Tryz.f3 false true false false):=by
 refine returnsInHanded_of_row (C:=Tryz.checked) (s:=Rows.OpenSpec.upto Rows.parseDeepSpec) own started (by kernel_rfl) Tryz.func3
  (witness (enc:=enc) (C:=Tryz.checked) (os:=os) false (World.laidAll Tryz.prog os Rows.parseDeepUptoRow.laid) #[.int .i64 0,.slice none 0 0] (World.laidAll_os _ _ _)
    (World.shaped_of_ZipB (by kernel_rfl) (by kernel_rfl)) (by kernel_rfl)
    (OpenSpec.preRow_of_cond 8 (x:=([.lit (.int .i64 0),.nil],[],[])) (by kernel_rfl) (by kernel_rfl) (fun k aD=>by cases aD;kernel_rfl) (by kernel_rfl)
      (by rw [MakeChecks.laidMetH_plain _ _ _ (by kernel_rfl)];exact laidMet_laidAll _ (by kernel_rfl) (by kernel_rfl)))) ?_
 intro W base args ds gs before Jb qo _ aD _ gL xj _;rw [MakeChecks.laidMetH_plain _ _ _ (by kernel_rfl)] at gL;refine ba.agk (s:=Rows.parseDeepSpec) (K8:=4) tiled laidOut (by kernel_rfl) rfl (by kernel_rfl) Tryz.underlying4 (fun ds aG=>?_) told (bound (aD _ rfl)) (agM (fun _ h=>h) gL xj) zN ⟨_,Tryz.func3,by kernel_rfl⟩ Jb qo
 match ds,aG with
 | [d1,d2],_=>rfl
theorem over:Rows.parseDeepUptoRow.holds Tryz.pinned (Rows.OpenSpec.upto Rows.parseDeepSpec):=
 OpenClaim.holds_of_cond 3 Tryz.f3 rfl rfl rfl rfl rfl rfl rfl ⟨rfl,rfl,rfl,rfl,rfl⟩ rfl rfl rfl rfl rfl (by kernel_rfl) Tryz.func3 (by kernel_rfl)
  (of_decide_eq_true (by kernel_rfl)) (by unfold Func.isWrapper;first | (rw [aoN (by decide +kernel)];kernel_rfl) | (rw [aoI (by decide +kernel)];exact ⟨rfl,rfl⟩))
  (fun os started H enc _ F=>by rw [OpenClaim.pre_eq_preRow];exact lifted os started H enc F)
theorem plain (f:FuncId) (fn:Func) (aE:Tryz.pinned.checked.prog.funcNamed "gimlet/gimletlaw17.ParseDeep"=some f) (mV:Tryz.pinned.checked.prog.funcs[f]? =some fn):
 true=Tryz.pinned.checked.prog.looks []/\∀(j:Nat) t,fn.params[j]? =some t->Tryz.pinned.checked.prog.wantsStandIn t=false:=by
 obtain rfl:f=3:=ap8 ((show Tryz.prog.funcNamed "gimlet/gimletlaw17.ParseDeep"=some 3 by kernel_rfl).symm.trans aE) |>.symm;obtain rfl:fn=Tryz.f3:=(ap8 (Tryz.func3.symm.trans mV)).symm;refine ⟨by kernel_rfl,fun j t az=>?_⟩;rw [Tryz.params3] at az;have hm:t ∈ [3,22]:=by simpa using Array.mem_of_getElem? az
 have gq:([3,22].all fun u=>!Tryz.prog.wantsStandIn u)=true:=by kernel_rfl
 exact (show Tryz.prog.wantsStandIn t=false by simpa using ao9.1 gq t hm)
theorem proved:Rows.ParseDeepUptoCardSaid:=
 Claim7.holds_tied_plain_at .later [] [.data,.data,.data,.data,.sentinel,.sentinel,.pinned] true (true, "ac05073d2c4cf4411c7cb45fa96dc6b8e9b1754c4681eeb96a0d8556fee0f65c") true
  over (fun _ h=>by cases h) (by kernel_rfl) (fun _ h=>by cases h) parseDeepUpto_row_tie rfl ⟨rfl,rfl⟩ (by kernel_rfl) rfl plain (by kernel_rfl)
#print axioms proved
end Go.Proofs.YtahfljfikfkpnaaGreatDoor.parseDeep
