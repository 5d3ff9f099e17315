/- How deep a program may be is told as the document says; for arguments of bulk at most 1,048,576. -/
import Derived.Test.YtkehcalakofigaaGreatDoorM14
import Derived.Test.YtkehcalakofigaaGreatDoorM16
import Derived.Test.YtkehcalakofigaaGreatDoorM5
import Derived.WalkKit
import Derived.ProofKit
import Derived.OpenShut
import Derived.ChangeSame
import Derived.SevenTiedAt
import Derived.Deep.DeepHandedRow
import Derived.Test.YtkehcalakofigaaGreatDoorCards
import Derived.Test.YtkehcalakofigaaGreatDoorTie
set_option linter.unusedSectionVars false
set_option linter.unusedSimpArgs false
set_option linter.unusedVariables false
namespace Go.Proofs.YtkehcalakofigaaGreatDoor.treeDeep
open Go.ChangeShapes Go.WideShapes Go.ChangeAt Go.RowKit
theorem own:ownKnob Tryz.prog.godebug=none:=by kernel_rfl
theorem tiled:aY.r4 Tryz.prog=true:=by kernel_rfl
theorem laidOut:laidOutB Tryz.prog=true:=by kernel_rfl
mutual
theorem xG {H:Type}:∀d:DataW H,Rows.uptoBulk d=aY.eI d
 | .lit l=>by cases l<;>simp only [Rows.uptoBulk,aY.eI]
 | .nil=>by simp only [Rows.uptoBulk,aY.eI]
 | .ptr d=>by simp only [Rows.uptoBulk,aY.eI,xG d]
 | .slice e s=>by simp only [Rows.uptoBulk,aY.eI,uV e,uV s]
 | .agg p=>by simp only [Rows.uptoBulk,aY.eI,uV p]
 | .iface _ d=>by simp only [Rows.uptoBulk,aY.eI,xG d]
 | .map e=>by simp only [Rows.uptoBulk,aY.eI,GM e]
 | .held _=>by simp only [Rows.uptoBulk,aY.eI]
theorem uV {H:Type}:∀l:List (DataW H),Rows.uptoBulkAll l=aY.jw l
 | []=>rfl
 | d::r=>by simp only [Rows.uptoBulkAll,aY.jw,xG d,uV r]
theorem GM {H:Type}:∀l:List (Lit × DataW H),Rows.uptoBulkEntries l=aY.xF l
 | []=>rfl
 | x::r=>by simp only [Rows.uptoBulkEntries,aY.xF,OA x,GM r]
theorem OA {H:Type}:∀x:Lit × DataW H,Rows.uptoBulkEntry x=aY.Bc x
 | (l,d)=>by cases l<;>simp only [Rows.uptoBulkEntry,aY.Bc,xG d]
end
theorem bound {H:Type} {l:List (DataW H)} (az:Rows.uptoSmall H l=true):aY.jw l≤1048576:=by
 rw [←uV]
 simpa [Rows.uptoSmall] using az
set_option maxRecDepth 100000 in
theorem told (h:aY.ae) (xs:List aY.V) (aR:aY.kE Tryz.prog h 1048576 Tryz.f4.params.toList xs):aY.bK Tryz.prog 4 xs h fun y _=>y=.bool true:=by
 rw [Tryz.params4] at aR
 obtain ⟨a,dX,k,bl,n,rfl,az,a6,U⟩:=aY.L9 aR
 obtain ⟨a2,acV,cz,adx,kX,rfl,Dc,ad,aI⟩:=aY.L9 U
 obtain rfl:=aY.aa2 aI
 obtain ⟨i,rfl,_⟩:=aY.aa3 a6 Tryz.underlying3
 obtain ⟨hD,len,g⟩:=aY.aa4 ad Tryz.underlying33 cells3 (by decide)
 obtain ⟨aJ,_,_,K⟩:=aY.ZK aY.encI g (by omega) fun k ab _ q=>ZJ q
 exact RY i aJ _ h K
theorem witness {H:Type} {enc:TypeId × Value→H} {C:Checked} {os:Os} {f:FuncId} {fn:Func} {s:OpenSpec} {conds:List PathCond} {apart:Bool} {laid:List (String × DataW Unit)} (modest:Bool) (au:World) (args:Array Value) (lu:au.os=os)
 (vD:(au.forCall (fun _ _=>0) ⟨#[],args,[]⟩).Shaped C.prog)
 (bg:Input.okWideB C.prog (au.forCall (fun _ _=>0) ⟨#[],args,[]⟩) f ⟨#[],args,[]⟩=true)
 (DL:s.preRow enc C.prog fn conds apart laid (au.forCall (fun _ _=>0) ⟨#[],args,[]⟩).memory args):
 ∃(w:World) (tape:Tape) (i:Input),w.os=os∧(w.forCall tape i).Shaped C.prog∧i.vars=[]∧Input.okWide C.prog (w.forCall tape i) .any w.heap.size f i∧
  s.preRow enc C.prog fn conds apart laid (w.forCall tape i).memory i.args∧({modest:=modest}:Assume).holds C.prog (lone (Frame.enter C.prog f i.args .normal) [] (w.forCall tape i)):=
 ⟨au,fun _ _=>0,⟨#[],args,[]⟩,lu,vD,(Input.okWide_of_okWideB (base:=0) bg).1,(Input.okWide_of_okWideB bg).2,DL,by
   simp only [Assume.holds]
   exact ⟨by simp,by simp,fun _=>Modest.zero,by simp,by simp⟩⟩
set_option maxRecDepth 100000 in
theorem lifted (os:Os) (started:os.Started) (H:Type) (enc:TypeId × Value→H) (F:Stop.Interp):
 ReturnsInHanded {} Tryz.checked os 4 .any ((Rows.OpenSpec.upto Rows.treeDeepSpec).preRow enc Tryz.prog Tryz.f4 Rows.treeDeepUptoRow.domain false Rows.treeDeepUptoRow.laid) (((Rows.OpenSpec.upto Rows.treeDeepSpec).at F).post enc Tryz.prog Tryz.f4 false true false false):=by
 refine returnsInHanded_of_row (C:=Tryz.checked) (s:=Rows.OpenSpec.upto Rows.treeDeepSpec) own started (by kernel_rfl) Tryz.func4
  (witness (enc:=enc) (C:=Tryz.checked) (os:=os) false (World.laidAll Tryz.prog os Rows.treeDeepUptoRow.laid) #[.int .i64 0,.slice none 0 0] (World.laidAll_os _ _ _)
    (World.shaped_of_ZipB (by kernel_rfl) (by kernel_rfl)) (by kernel_rfl)
    (OpenSpec.preRow_of_cond 8 (x:=([.lit (.int .i64 0),.nil],[],[])) (by kernel_rfl) (by kernel_rfl) (fun k az=>by cases az;kernel_rfl) (by kernel_rfl)
      (by rw [MakeChecks.laidMetH_plain _ _ _ (by kernel_rfl)];exact laidMet_laidAll _ (by kernel_rfl) (by kernel_rfl)))) ?_
 intro W base args ds gs before DU sZ _ az _ cy vD _
 rw [MakeChecks.laidMetH_plain _ _ _ (by kernel_rfl)] at cy
 refine aY.X2 (s:=Rows.treeDeepSpec) (Fz:=4) tiled laidOut (by kernel_rfl) rfl (by kernel_rfl) Tryz.underlying4 (fun ds aj=>?_) told (bound (az _ rfl)) (Yr (fun _ h=>h) cy vD) c_ ⟨_,Tryz.func4,by kernel_rfl⟩ DU sZ
 match ds,aj with
 | [d1,d2],_=>rfl
theorem over:Rows.treeDeepUptoRow.holds Tryz.pinned (Rows.OpenSpec.upto Rows.treeDeepSpec):=
 OpenClaim.holds_of_cond 4 Tryz.f4 rfl rfl rfl rfl rfl rfl rfl ⟨rfl,rfl,rfl,rfl,rfl⟩ rfl rfl rfl rfl rfl (by kernel_rfl) Tryz.func4 (by kernel_rfl)
  (of_decide_eq_true (by kernel_rfl)) (by unfold Func.isWrapper;first | (rw [if_pos (by decide +kernel)];kernel_rfl) | (rw [if_neg (by decide +kernel)];exact ⟨rfl,rfl⟩))
  (fun os started H enc _ F=>by rw [OpenClaim.pre_eq_preRow];exact lifted os started H enc F)
theorem plain (f:FuncId) (fn:Func) (ax:Tryz.pinned.checked.prog.funcNamed "gimlet/gimletlaw16.TreeDeep"=some f) (gk:Tryz.pinned.checked.prog.funcs[f]? =some fn):
 true=Tryz.pinned.checked.prog.looks []∧∀(j:Nat) t,fn.params[j]? =some t→Tryz.pinned.checked.prog.wantsStandIn t=false:=by
 obtain rfl:f=4:=Option.some.inj ((show Tryz.prog.funcNamed "gimlet/gimletlaw16.TreeDeep"=some 4 by kernel_rfl).symm.trans ax) |>.symm
 obtain rfl:fn=Tryz.f4:=(Option.some.inj (Tryz.func4.symm.trans gk)).symm
 refine ⟨by kernel_rfl,fun j t aB=>?_⟩
 rw [Tryz.params4] at aB
 have hm:t ∈ [3,33]:=by simpa using Array.mem_of_getElem? aB
 have cT:([3,33].all fun u=>!Tryz.prog.wantsStandIn u)=true:=by kernel_rfl
 exact (show Tryz.prog.wantsStandIn t=false by simpa using List.all_eq_true.1 cT t hm)
theorem proved:Rows.TreeDeepUptoCardSaid:=
 Claim7.holds_tied_plain_at .later [] [.data,.data,.data,.data,.sentinel,.sentinel,.pinned] true (true, "34d0c3dc1db3f6800712e2b427fe4f73bf3590ea4edb4a6c37dd404b252008c8") true
  over (fun _ h=>by cases h) (by kernel_rfl) (fun _ h=>by cases h) treeDeepUpto_row_tie rfl ⟨rfl,rfl⟩ (by kernel_rfl) rfl plain (by kernel_rfl)
#print axioms proved
end Go.Proofs.YtkehcalakofigaaGreatDoor.treeDeep
