/- MatchDecides: a decision tells the first pattern that fits (arguments of bulk at most 1,048,576). -/
import Derived.Test.YtgmhjhgoamjeeaaGreatDoorM20
import Derived.Test.YtgmhjhgoamjeeaaGreatDoorM22
import Derived.Test.YtgmhjhgoamjeeaaGreatDoorM4
import Derived.WalkKit
import Derived.ProofKit
import Derived.OpenShut
import Derived.ChangeSame
import Derived.SevenTiedAt
import Derived.Deep.DeepHandedRow
import Derived.Test.YtgmhjhgoamjeeaaGreatDoorCards
import Derived.Test.YtgmhjhgoamjeeaaGreatDoorTie
set_option linter.unusedSectionVars false
set_option linter.unusedSimpArgs false
set_option linter.unusedVariables false
set_option maxHeartbeats 64000000
noncomputable section
namespace Go.Proofs.YtgmhjhgoamjeeaaGreatDoor.matchDecides
open Go.ChangeShapes Go.WideShapes Go.ChangeAt Go.RowKit
theorem own:ownKnob Tryz.prog.godebug=none:=by kernel_rfl
theorem tiled:aX.xF Tryz.prog=true:=by kernel_rfl
theorem laidOut:laidOutB Tryz.prog=true:=by kernel_rfl
mutual
theorem Ee {H:Type}:∀d:DataW H,Rows.uptoBulk d=aX.fP d
 | .lit l=>by cases l<;>simp only [Rows.uptoBulk,aX.fP]
 | .nil=>by simp only [Rows.uptoBulk,aX.fP]
 | .ptr d=>by simp only [Rows.uptoBulk,aX.fP,Ee d]
 | .slice e s=>by simp only [Rows.uptoBulk,aX.fP,A5 e,A5 s]
 | .agg p=>by simp only [Rows.uptoBulk,aX.fP,A5 p]
 | .iface _ d=>by simp only [Rows.uptoBulk,aX.fP,Ee d]
 | .map e=>by simp only [Rows.uptoBulk,aX.fP,OL e]
 | .held _=>by simp only [Rows.uptoBulk,aX.fP]
theorem A5 {H:Type}:∀l:List (DataW H),Rows.uptoBulkAll l=aX.mz l
 | []=>rfl
 | d::r=>by simp only [Rows.uptoBulkAll,aX.mz,Ee d,A5 r]
theorem OL {H:Type}:∀l:List (Lit × DataW H),Rows.uptoBulkEntries l=aX.Ed l
 | []=>rfl
 | x::r=>by simp only [Rows.uptoBulkEntries,aX.Ed,Z2 x,OL r]
theorem Z2 {H:Type}:∀x:Lit × DataW H,Rows.uptoBulkEntry x=aX.IF x
 | (l,d)=>by cases l<;>simp only [Rows.uptoBulkEntry,aX.IF,Ee d]
end
theorem bound {H:Type} {l:List (DataW H)} (aB:Rows.uptoSmall H l=true):aX.mz l<=1048576:=by rw [<-A5];simpa [Rows.uptoSmall] using aB
set_option maxRecDepth 100000 in
theorem told (h:aX.ae) (xs:List aX.V) (aU:aX.og Tryz.prog h 1048576 Tryz.f6.params.toList xs):aX.cR Tryz.prog 6 xs h fun y _=>y=.bool true:=by rw [Tryz.params6] at aU;obtain ⟨a,e6,k,br,n,rfl,aB,aY,aa⟩:=aX.MI aU;obtain ⟨a2,apC,b5,aqr,fZ,rfl,Ka,ad,aH⟩:=aX.MI aa;obtain ⟨a3,apD,dW,aqs,n3,rfl,aqa,bw,cM⟩:=aX.MI aH;obtain rfl:=aX.anz cM;obtain ⟨gu,len,g⟩:=aX.Wu aY Tryz.underlying22 Qr (by decide);obtain ⟨aqC,Uf,g2⟩:=aX.Wu ad Tryz.underlying23 Ei (by decide);obtain ⟨ws,rfl,g3⟩:=aX.anA bw Tryz.underlying29;obtain ⟨cs,rb,C⟩:=alU g (by omega);obtain ⟨l,ls,L⟩:=alV g2 (by omega);obtain ⟨t,X1,_⟩:=Vh n3 g3 (by omega);exact aca cs l (by omega) t a a2 ws h C L X1
theorem witness {H:Type} {enc:TypeId × Value->H} {C:Checked} {os:Os} {f:FuncId} {fn:Func} {s:OpenSpec} {conds:List PathCond} {apart:Bool} {laid:List (String × DataW Unit)} (modest:Bool) (aA:World) (args:Array Value) (pv:aA.os=os)
 (B5:(aA.forCall (fun _ _=>0) ⟨#[],args,[]⟩).Shaped C.prog)
 (bB:Input.okWideB C.prog (aA.forCall (fun _ _=>0) ⟨#[],args,[]⟩) f ⟨#[],args,[]⟩=true)
 (agl:s.preRow enc C.prog fn conds apart laid (aA.forCall (fun _ _=>0) ⟨#[],args,[]⟩).memory args):
 ∃(w:World) (tape:Tape) (i:Input),w.os=os/\(w.forCall tape i).Shaped C.prog/\i.vars=[]/\Input.okWide C.prog (w.forCall tape i) .any w.heap.size f i/\
  s.preRow enc C.prog fn conds apart laid (w.forCall tape i).memory i.args/\({modest:=modest}:Assume).holds C.prog (lone (Frame.enter C.prog f i.args .normal) [] (w.forCall tape i)):=
 ⟨aA,fun _ _=>0,⟨#[],args,[]⟩,pv,B5,(Input.okWide_of_okWideB (base:=0) bB).1,(Input.okWide_of_okWideB bB).2,agl,by
   simp only [Assume.holds]
   exact ⟨by simp,by simp,fun _=>Modest.zero,by simp,by simp⟩⟩
set_option maxRecDepth 100000 in
theorem lifted (os:Os) (started:os.Started) (H:Type) (enc:TypeId × Value->H) (F:Stop.Interp):
 ReturnsInHanded {} Tryz.checked os 6 .any ((Rows.OpenSpec.upto Rows.matchDecidesSpec).preRow enc Tryz.prog Tryz.f6 Rows.matchDecidesUptoRow.domain false Rows.matchDecidesUptoRow.laid) (((Rows.OpenSpec.upto Rows.matchDecidesSpec).at F).post enc Tryz.prog Tryz.f6 false true false false):=by
 refine returnsInHanded_of_row (C:=Tryz.checked) (s:=Rows.OpenSpec.upto Rows.matchDecidesSpec) own started (by kernel_rfl) Tryz.func6
  (witness (enc:=enc) (C:=Tryz.checked) (os:=os) false (World.laidAll Tryz.prog os Rows.matchDecidesUptoRow.laid) #[.slice none 0 0,.slice none 0 0,.agg #[.int .i64 0,.int .i64 0,.slice none 0 0]] (World.laidAll_os _ _ _)
    (World.shaped_of_ZipB (by kernel_rfl) (by kernel_rfl)) (by kernel_rfl)
    (OpenSpec.preRow_of_cond 8 (x:=([.nil,.nil,.agg [.lit (.int .i64 0),.lit (.int .i64 0),.nil]],[],[])) (by kernel_rfl) (by kernel_rfl) (fun k aB=>by cases aB;kernel_rfl) (by kernel_rfl)
      (by rw [MakeChecks.laidMetH_plain _ _ _ (by kernel_rfl)];exact laidMet_laidAll _ (by kernel_rfl) (by kernel_rfl)))) ?_
 intro W base args ds gs before y7 yI _ aB _ c' B5 _;rw [MakeChecks.laidMetH_plain _ _ _ (by kernel_rfl)] at c';refine aX.ajO (s:=Rows.matchDecidesSpec) (C':=4) tiled laidOut (by kernel_rfl) rfl (by kernel_rfl) Tryz.underlying4 (fun ds ax=>?_) told (bound (aB _ rfl)) (akh (fun _ h=>h) c' B5) zp ⟨_,Tryz.func6,by kernel_rfl⟩ y7 yI
 match ds,ax with
 | [d1,d2,d3],_=>rfl
theorem over:Rows.matchDecidesUptoRow.holds Tryz.pinned (Rows.OpenSpec.upto Rows.matchDecidesSpec):=
 OpenClaim.holds_of_cond 6 Tryz.f6 rfl rfl rfl rfl rfl rfl rfl ⟨rfl,rfl,rfl,rfl,rfl⟩ rfl rfl rfl rfl rfl (by kernel_rfl) Tryz.func6 (by kernel_rfl)
  (of_decide_eq_true (by kernel_rfl)) (by unfold Func.isWrapper;first | (rw [arz (by decide +kernel)];kernel_rfl) | (rw [arw (by decide +kernel)];exact ⟨rfl,rfl⟩))
  (fun os started H enc _ F=>by rw [OpenClaim.pre_eq_preRow];exact lifted os started H enc F)
theorem plain (f:FuncId) (fn:Func) (av:Tryz.pinned.checked.prog.funcNamed "gimlet/gimletlaw24.MatchDecides"=some f) (ik:Tryz.pinned.checked.prog.funcs[f]? =some fn):
 true=Tryz.pinned.checked.prog.looks []/\∀(j:Nat) t,fn.params[j]? =some t->Tryz.pinned.checked.prog.wantsStandIn t=false:=by
 obtain rfl:f=6:=asK ((show Tryz.prog.funcNamed "gimlet/gimletlaw24.MatchDecides"=some 6 by kernel_rfl).symm.trans av) |>.symm;obtain rfl:fn=Tryz.f6:=(asK (Tryz.func6.symm.trans ik)).symm;refine ⟨by kernel_rfl,fun j t aG=>?_⟩;rw [Tryz.params6] at aG;have hm:t ∈ [22,23,29]:=by simpa using Array.mem_of_getElem? aG
 have cY:([22,23,29].all fun u=>!Tryz.prog.wantsStandIn u)=true:=by kernel_rfl
 exact (show Tryz.prog.wantsStandIn t=false by simpa using arU.1 cY t hm)
theorem proved:Rows.MatchDecidesUptoCardSaid:=
 Claim7.holds_tied_plain_at .later [] [.data,.data,.data,.data,.sentinel,.sentinel,.pinned] true (true, "e5839d4b1bf30a1bdf932ce6c94dd6e8513916d7e6920b2fc84b52551d937462") true
  over (fun _ h=>by cases h) (by kernel_rfl) (fun _ h=>by cases h) matchDecidesUpto_row_tie rfl ⟨rfl,rfl⟩ (by kernel_rfl) rfl plain (by kernel_rfl)
#print axioms proved
end Go.Proofs.YtgmhjhgoamjeeaaGreatDoor.matchDecides
