/- MatchAsks: what a pattern asks, and which names it has, and where, is told as the document says, in new memory. -/
import Derived.Test.YtgmhjhgoamjeeaaGreatDoorM20
import Derived.Test.YtgmhjhgoamjeeaaGreatDoorM22
import Derived.Test.YtgmhjhgoamjeeaaGreatDoorM4
import Derived.WalkKit
import Derived.ProofKit
import Derived.OpenShut
import Derived.ChangeSame
import Derived.SevenTiedAt
import Derived.Deep.DeepHandedRow
import Derived.Test.YtgmhjhgoamjeeaaGreatDoorCards
import Derived.Test.YtgmhjhgoamjeeaaGreatDoorTie
set_option linter.unusedSectionVars false
set_option linter.unusedSimpArgs false
set_option linter.unusedVariables false
set_option maxHeartbeats 64000000
noncomputable section
namespace Go.Proofs.YtgmhjhgoamjeeaaGreatDoor.matchAsks
open Go.ChangeShapes Go.WideShapes Go.ChangeAt Go.RowKit
theorem own:ownKnob Tryz.prog.godebug=none:=by kernel_rfl
theorem tiled:aZ.xd Tryz.prog=true:=by kernel_rfl
theorem laidOut:laidOutB Tryz.prog=true:=by kernel_rfl
mutual
theorem DD {H:Type}:∀d:DataW H,Rows.uptoBulk d=aZ.fS d
 | .lit l=>by cases l<;>simp only [Rows.uptoBulk,aZ.fS]
 | .nil=>by simp only [Rows.uptoBulk,aZ.fS]
 | .ptr d=>by simp only [Rows.uptoBulk,aZ.fS,DD d]
 | .slice e s=>by simp only [Rows.uptoBulk,aZ.fS,Ay e,Ay s]
 | .agg p=>by simp only [Rows.uptoBulk,aZ.fS,Ay p]
 | .iface _ d=>by simp only [Rows.uptoBulk,aZ.fS,DD d]
 | .map e=>by simp only [Rows.uptoBulk,aZ.fS,Nx e]
 | .held _=>by simp only [Rows.uptoBulk,aZ.fS]
theorem Ay {H:Type}:∀l:List (DataW H),Rows.uptoBulkAll l=aZ.l' l
 | []=>rfl
 | d::r=>by simp only [Rows.uptoBulkAll,aZ.l',DD d,Ay r]
theorem Nx {H:Type}:∀l:List (Lit × DataW H),Rows.uptoBulkEntries l=aZ.DC l
 | []=>rfl
 | x::r=>by simp only [Rows.uptoBulkEntries,aZ.DC,Yy x,Nx r]
theorem Yy {H:Type}:∀x:Lit × DataW H,Rows.uptoBulkEntry x=aZ.HP x
 | (l,d)=>by cases l<;>simp only [Rows.uptoBulkEntry,aZ.HP,DD d]
end
theorem bound {H:Type} {l:List (DataW H)} (aA:Rows.uptoSmall H l=true):aZ.l' l<=1048576:=by rw [<-Ay];simpa [Rows.uptoSmall] using aA
set_option maxRecDepth 100000 in
theorem told (h:aZ.ae) (xs:List aZ.V) (aW:aZ.nO Tryz.prog h 1048576 Tryz.f3.params.toList xs):aZ.cv Tryz.prog 3 xs h fun y _=>y=.bool true:=by rw [Tryz.params3] at aW;obtain ⟨a,fb,k,bp,n,rfl,aA,aY,U⟩:=aZ.Vu aW;obtain ⟨a3,anZ,fH,aoD,n3,rfl,aoo,bq,cF⟩:=aZ.Vu U;obtain rfl:=aZ.alU cF;obtain ⟨gS,len,g⟩:=aZ.alV aY Tryz.underlying22 Px (by decide);obtain ⟨ws,rfl,g3⟩:=aZ.alW bq Tryz.underlying25;obtain ⟨cs,q5,C⟩:=aj6 g (by omega);obtain ⟨t,WJ,_,st⟩:=T_ n3 g3 (by omega);exact X3 cs t (by omega) a ws h C WJ
theorem witness {H:Type} {enc:TypeId × Value->H} {C:Checked} {os:Os} {f:FuncId} {fn:Func} {s:OpenSpec} {conds:List PathCond} {apart:Bool} {laid:List (String × DataW Unit)} (modest:Bool) (az:World) (args:Array Value) (o5:az.os=os)
 (Bt:(az.forCall (fun _ _=>0) ⟨#[],args,[]⟩).Shaped C.prog)
 (bt:Input.okWideB C.prog (az.forCall (fun _ _=>0) ⟨#[],args,[]⟩) f ⟨#[],args,[]⟩=true)
 (aeC:s.preRow enc C.prog fn conds apart laid (az.forCall (fun _ _=>0) ⟨#[],args,[]⟩).memory args):
 ∃(w:World) (tape:Tape) (i:Input),w.os=os/\(w.forCall tape i).Shaped C.prog/\i.vars=[]/\Input.okWide C.prog (w.forCall tape i) .any w.heap.size f i/\
  s.preRow enc C.prog fn conds apart laid (w.forCall tape i).memory i.args/\({modest:=modest}:Assume).holds C.prog (lone (Frame.enter C.prog f i.args .normal) [] (w.forCall tape i)):=
 ⟨az,fun _ _=>0,⟨#[],args,[]⟩,o5,Bt,(Input.okWide_of_okWideB (base:=0) bt).1,(Input.okWide_of_okWideB bt).2,aeC,by
   simp only [Assume.holds]
   exact ⟨by simp,by simp,fun _=>Modest.zero,by simp,by simp⟩⟩
set_option maxRecDepth 100000 in
theorem lifted (os:Os) (started:os.Started) (H:Type) (enc:TypeId × Value->H) (F:Stop.Interp):
 ReturnsInHanded {} Tryz.checked os 3 .any ((Rows.OpenSpec.upto Rows.matchAsksSpec).preRow enc Tryz.prog Tryz.f3 Rows.matchAsksUptoRow.domain false Rows.matchAsksUptoRow.laid) (((Rows.OpenSpec.upto Rows.matchAsksSpec).at F).post enc Tryz.prog Tryz.f3 false true false false):=by
 refine returnsInHanded_of_row (C:=Tryz.checked) (s:=Rows.OpenSpec.upto Rows.matchAsksSpec) own started (by kernel_rfl) Tryz.func3
  (witness (enc:=enc) (C:=Tryz.checked) (os:=os) false (World.laidAll Tryz.prog os Rows.matchAsksUptoRow.laid) #[.slice none 0 0,.agg #[.int .i64 0,.int .i64 0,.int .i64 0,.string ⟨⟨[]⟩⟩,.slice none 0 0]] (World.laidAll_os _ _ _)
    (World.shaped_of_ZipB (by kernel_rfl) (by kernel_rfl)) (by kernel_rfl)
    (OpenSpec.preRow_of_cond 8 (x:=([.nil,.agg [.lit (.int .i64 0),.lit (.int .i64 0),.lit (.int .i64 0),.lit (.string []),.nil]],[],[])) (by kernel_rfl) (by kernel_rfl) (fun k aA=>by cases aA;kernel_rfl) (by kernel_rfl)
      (by rw [MakeChecks.laidMetH_plain _ _ _ (by kernel_rfl)];exact laidMet_laidAll _ (by kernel_rfl) (by kernel_rfl)))) ?_
 intro W base args ds gs before yH yh _ aA _ cX Bt _;rw [MakeChecks.laidMetH_plain _ _ _ (by kernel_rfl)] at cX;refine aZ.ahX (s:=Rows.matchAsksSpec) (Cy:=4) tiled laidOut (by kernel_rfl) rfl (by kernel_rfl) Tryz.underlying4 (fun ds ar=>?_) told (bound (aA _ rfl)) (aiw (fun _ h=>h) cX Bt) y2 ⟨_,Tryz.func3,by kernel_rfl⟩ yH yh
 match ds,ar with
 | [d1,d2],_=>rfl
theorem over:Rows.matchAsksUptoRow.holds Tryz.pinned (Rows.OpenSpec.upto Rows.matchAsksSpec):=
 OpenClaim.holds_of_cond 3 Tryz.f3 rfl rfl rfl rfl rfl rfl rfl ⟨rfl,rfl,rfl,rfl,rfl⟩ rfl rfl rfl rfl rfl (by kernel_rfl) Tryz.func3 (by kernel_rfl)
  (of_decide_eq_true (by kernel_rfl)) (by unfold Func.isWrapper;first | (rw [apB (by decide +kernel)];kernel_rfl) | (rw [apu (by decide +kernel)];exact ⟨rfl,rfl⟩))
  (fun os started H enc _ F=>by rw [OpenClaim.pre_eq_preRow];exact lifted os started H enc F)
theorem plain (f:FuncId) (fn:Func) (aB:Tryz.pinned.checked.prog.funcNamed "gimlet/gimletlaw24.MatchAsks"=some f) (ig:Tryz.pinned.checked.prog.funcs[f]? =some fn):
 true=Tryz.pinned.checked.prog.looks []/\∀(j:Nat) t,fn.params[j]? =some t->Tryz.pinned.checked.prog.wantsStandIn t=false:=by
 obtain rfl:f=3:=aqF ((show Tryz.prog.funcNamed "gimlet/gimletlaw24.MatchAsks"=some 3 by kernel_rfl).symm.trans aB) |>.symm;obtain rfl:fn=Tryz.f3:=(aqF (Tryz.func3.symm.trans ig)).symm;refine ⟨by kernel_rfl,fun j t aE=>?_⟩;rw [Tryz.params3] at aE;have hm:t ∈ [22,25]:=by simpa using Array.mem_of_getElem? aE
 have dx:([22,25].all fun u=>!Tryz.prog.wantsStandIn u)=true:=by kernel_rfl
 exact (show Tryz.prog.wantsStandIn t=false by simpa using apP.1 dx t hm)
theorem proved:Rows.MatchAsksUptoCardSaid:=
 Claim7.holds_tied_plain_at .later [] [.data,.data,.data,.data,.sentinel,.sentinel,.pinned] true (true, "e5839d4b1bf30a1bdf932ce6c94dd6e8513916d7e6920b2fc84b52551d937462") true
  over (fun _ h=>by cases h) (by kernel_rfl) (fun _ h=>by cases h) matchAsksUpto_row_tie rfl ⟨rfl,rfl⟩ (by kernel_rfl) rfl plain (by kernel_rfl)
#print axioms proved
end Go.Proofs.YtgmhjhgoamjeeaaGreatDoor.matchAsks
