/- Which names a part binds, which it uses, and what it is without its places, is told as the document says; for arguments of bulk at most 1,048,576. -/
import Derived.Test.YtkehcalakofigaaGreatDoorM16
import Derived.Test.YtkehcalakofigaaGreatDoorM18
import Derived.Test.YtkehcalakofigaaGreatDoorM5
import Derived.WalkKit
import Derived.ProofKit
import Derived.OpenShut
import Derived.ChangeSame
import Derived.SevenTiedAt
import Derived.Deep.DeepHandedRow
import Derived.Test.YtkehcalakofigaaGreatDoorCards
import Derived.Test.YtkehcalakofigaaGreatDoorTie
set_option linter.unusedSectionVars false
set_option linter.unusedSimpArgs false
set_option linter.unusedVariables false
namespace Go.Proofs.YtkehcalakofigaaGreatDoor.treeNames
open Go.ChangeShapes Go.WideShapes Go.ChangeAt Go.RowKit
theorem own:ownKnob Tryz.prog.godebug=none:=by kernel_rfl
theorem tiled:aS.uo Tryz.prog=true:=by kernel_rfl
theorem laidOut:laidOutB Tryz.prog=true:=by kernel_rfl
mutual
theorem AQ {H:Type}:∀d:DataW H,Rows.uptoBulk d=aS.fa d
 | .lit l=>by cases l<;>simp only [Rows.uptoBulk,aS.fa]
 | .nil=>by simp only [Rows.uptoBulk,aS.fa]
 | .ptr d=>by simp only [Rows.uptoBulk,aS.fa,AQ d]
 | .slice e s=>by simp only [Rows.uptoBulk,aS.fa,xH e,xH s]
 | .agg p=>by simp only [Rows.uptoBulk,aS.fa,xH p]
 | .iface _ d=>by simp only [Rows.uptoBulk,aS.fa,AQ d]
 | .map e=>by simp only [Rows.uptoBulk,aS.fa,Lb e]
 | .held _=>by simp only [Rows.uptoBulk,aS.fa]
theorem xH {H:Type}:∀l:List (DataW H),Rows.uptoBulkAll l=aS.kJ l
 | []=>rfl
 | d::r=>by simp only [Rows.uptoBulkAll,aS.kJ,AQ d,xH r]
theorem Lb {H:Type}:∀l:List (Lit × DataW H),Rows.uptoBulkEntries l=aS.AP l
 | []=>rfl
 | x::r=>by simp only [Rows.uptoBulkEntries,aS.AP,UG x,Lb r]
theorem UG {H:Type}:∀x:Lit × DataW H,Rows.uptoBulkEntry x=aS.EC x
 | (l,d)=>by cases l<;>simp only [Rows.uptoBulkEntry,aS.EC,AQ d]
end
theorem bound {H:Type} {l:List (DataW H)} (aD:Rows.uptoSmall H l=true):aS.kJ l≤1048576:=by
 rw [←xH]
 simpa [Rows.uptoSmall] using aD
set_option maxRecDepth 100000 in
theorem told (h:aS.af) (xs:List aS.V) (aR:aS.l' Tryz.prog h 1048576 Tryz.f5.params.toList xs):aS.bB Tryz.prog 5 xs h fun y _=>y=.bool true:=by
 rw [Tryz.params5] at aR
 obtain ⟨a,ez,k,bn,n,rfl,aD,bb,aa⟩:=aS.Rj aR
 obtain ⟨a2,aj5,cJ,akR,hJ,rfl,G1,ae,aI⟩:=aS.Rj aa
 obtain rfl:=aS.aic aI
 obtain ⟨ad,rfl,g⟩:=aS.Rk bb Tryz.underlying30
 obtain ⟨ws,rfl,g2⟩:=aS.Rk ae Tryz.underlying30
 obtain ⟨t,SS,_,st⟩:=IM n g (by omega)
 obtain ⟨u,SU,_,alm⟩:=IM hJ g2 (by omega)
 exact afY t u (by omega) (by omega) ad ws h SS SU
theorem witness {H:Type} {enc:TypeId × Value→H} {C:Checked} {os:Os} {f:FuncId} {fn:Func} {s:OpenSpec} {conds:List PathCond} {apart:Bool} {laid:List (String × DataW Unit)} (modest:Bool) (az:World) (args:Array Value) (ng:az.os=os)
 (yA:(az.forCall (fun _ _=>0) ⟨#[],args,[]⟩).Shaped C.prog)
 (bl:Input.okWideB C.prog (az.forCall (fun _ _=>0) ⟨#[],args,[]⟩) f ⟨#[],args,[]⟩=true)
 (Hz:s.preRow enc C.prog fn conds apart laid (az.forCall (fun _ _=>0) ⟨#[],args,[]⟩).memory args):
 ∃(w:World) (tape:Tape) (i:Input),w.os=os∧(w.forCall tape i).Shaped C.prog∧i.vars=[]∧Input.okWide C.prog (w.forCall tape i) .any w.heap.size f i∧
  s.preRow enc C.prog fn conds apart laid (w.forCall tape i).memory i.args∧({modest:=modest}:Assume).holds C.prog (lone (Frame.enter C.prog f i.args .normal) [] (w.forCall tape i)):=
 ⟨az,fun _ _=>0,⟨#[],args,[]⟩,ng,yA,(Input.okWide_of_okWideB (base:=0) bl).1,(Input.okWide_of_okWideB bl).2,Hz,by
   simp only [Assume.holds]
   exact ⟨by simp,by simp,fun _=>Modest.zero,by simp,by simp⟩⟩
set_option maxRecDepth 100000 in
theorem lifted (os:Os) (started:os.Started) (H:Type) (enc:TypeId × Value→H) (F:Stop.Interp):
 ReturnsInHanded {} Tryz.checked os 5 .any ((Rows.OpenSpec.upto Rows.treeNamesSpec).preRow enc Tryz.prog Tryz.f5 Rows.treeNamesUptoRow.domain false Rows.treeNamesUptoRow.laid) (((Rows.OpenSpec.upto Rows.treeNamesSpec).at F).post enc Tryz.prog Tryz.f5 false true false false):=by
 refine returnsInHanded_of_row (C:=Tryz.checked) (s:=Rows.OpenSpec.upto Rows.treeNamesSpec) own started (by kernel_rfl) Tryz.func5
  (witness (enc:=enc) (C:=Tryz.checked) (os:=os) false (World.laidAll Tryz.prog os Rows.treeNamesUptoRow.laid) #[.agg #[.int .i64 0,.int .i64 0,.int .i64 0,.string ⟨⟨[]⟩⟩,.slice none 0 0],.agg #[.int .i64 0,.int .i64 0,.int .i64 0,.string ⟨⟨[]⟩⟩,.slice none 0 0]] (World.laidAll_os _ _ _)
    (World.shaped_of_ZipB (by kernel_rfl) (by kernel_rfl)) (by kernel_rfl)
    (OpenSpec.preRow_of_cond 8 (x:=([.agg [.lit (.int .i64 0),.lit (.int .i64 0),.lit (.int .i64 0),.lit (.string []),.nil],.agg [.lit (.int .i64 0),.lit (.int .i64 0),.lit (.int .i64 0),.lit (.string []),.nil]],[],[])) (by kernel_rfl) (by kernel_rfl) (fun k aD=>by cases aD;kernel_rfl) (by kernel_rfl)
      (by rw [MakeChecks.laidMetH_plain _ _ _ (by kernel_rfl)];exact laidMet_laidAll _ (by kernel_rfl) (by kernel_rfl)))) ?_
 intro W base args ds gs before HK vx _ aD _ cI yA _
 rw [MakeChecks.laidMetH_plain _ _ _ (by kernel_rfl)] at cI
 refine aS.aeV (s:=Rows.treeNamesSpec) (JO:=4) tiled laidOut (by kernel_rfl) rfl (by kernel_rfl) Tryz.underlying4 (fun ds ak=>?_) told (bound (aD _ rfl)) (afl (fun _ h=>h) cI yA) cP ⟨_,Tryz.func5,by kernel_rfl⟩ HK vx
 match ds,ak with
 | [d1,d2],_=>rfl
theorem over:Rows.treeNamesUptoRow.holds Tryz.pinned (Rows.OpenSpec.upto Rows.treeNamesSpec):=
 OpenClaim.holds_of_cond 5 Tryz.f5 rfl rfl rfl rfl rfl rfl rfl ⟨rfl,rfl,rfl,rfl,rfl⟩ rfl rfl rfl rfl rfl (by kernel_rfl) Tryz.func5 (by kernel_rfl)
  (of_decide_eq_true (by kernel_rfl)) (by unfold Func.isWrapper;first | (rw [if_pos (by decide +kernel)];kernel_rfl) | (rw [if_neg (by decide +kernel)];exact ⟨rfl,rfl⟩))
  (fun os started H enc _ F=>by rw [OpenClaim.pre_eq_preRow];exact lifted os started H enc F)
theorem plain (f:FuncId) (fn:Func) (aA:Tryz.pinned.checked.prog.funcNamed "gimlet/gimletlaw16.TreeNames"=some f) (hg:Tryz.pinned.checked.prog.funcs[f]? =some fn):
 true=Tryz.pinned.checked.prog.looks []∧∀(j:Nat) t,fn.params[j]? =some t→Tryz.pinned.checked.prog.wantsStandIn t=false:=by
 obtain rfl:f=5:=Option.some.inj ((show Tryz.prog.funcNamed "gimlet/gimletlaw16.TreeNames"=some 5 by kernel_rfl).symm.trans aA) |>.symm
 obtain rfl:fn=Tryz.f5:=(Option.some.inj (Tryz.func5.symm.trans hg)).symm
 refine ⟨by kernel_rfl,fun j t aG=>?_⟩
 rw [Tryz.params5] at aG
 have hm:t ∈ [30,30]:=by simpa using Array.mem_of_getElem? aG
 have dT:([30,30].all fun u=>!Tryz.prog.wantsStandIn u)=true:=by kernel_rfl
 exact (show Tryz.prog.wantsStandIn t=false by simpa using List.all_eq_true.1 dT t hm)
theorem proved:Rows.TreeNamesUptoCardSaid:=
 Claim7.holds_tied_plain_at .later [] [.data,.data,.data,.data,.sentinel,.sentinel,.pinned] true (true, "34d0c3dc1db3f6800712e2b427fe4f73bf3590ea4edb4a6c37dd404b252008c8") true
  over (fun _ h=>by cases h) (by kernel_rfl) (fun _ h=>by cases h) treeNamesUpto_row_tie rfl ⟨rfl,rfl⟩ (by kernel_rfl) rfl plain (by kernel_rfl)
#print axioms proved
end Go.Proofs.YtkehcalakofigaaGreatDoor.treeNames
