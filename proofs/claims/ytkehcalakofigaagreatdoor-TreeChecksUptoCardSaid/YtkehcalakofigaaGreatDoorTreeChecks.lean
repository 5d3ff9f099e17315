/- Which declarations are a program, how deep and large they are, is told as the document says; for arguments of bulk at most 1,048,576. -/
import Derived.Test.YtkehcalakofigaaGreatDoorM12
import Derived.Test.YtkehcalakofigaaGreatDoorM14
import Derived.Test.YtkehcalakofigaaGreatDoorM5
import Derived.WalkKit
import Derived.ProofKit
import Derived.OpenShut
import Derived.ChangeSame
import Derived.SevenTiedAt
import Derived.Deep.DeepHandedRow
import Derived.Test.YtkehcalakofigaaGreatDoorCards
import Derived.Test.YtkehcalakofigaaGreatDoorTie
set_option linter.unusedSectionVars false
set_option linter.unusedSimpArgs false
set_option linter.unusedVariables false
namespace Go.Proofs.YtkehcalakofigaaGreatDoor.treeChecks
open Go.ChangeShapes Go.WideShapes Go.ChangeAt Go.RowKit
theorem own:ownKnob Tryz.prog.godebug=none:=by kernel_rfl
theorem tiled:a1.r7 Tryz.prog=true:=by kernel_rfl
theorem laidOut:laidOutB Tryz.prog=true:=by kernel_rfl
mutual
theorem xM {H:Type}:∀d:DataW H,Rows.uptoBulk d=a1.eK d
 | .lit l=>by cases l<;>simp only [Rows.uptoBulk,a1.eK]
 | .nil=>by simp only [Rows.uptoBulk,a1.eK]
 | .ptr d=>by simp only [Rows.uptoBulk,a1.eK,xM d]
 | .slice e s=>by simp only [Rows.uptoBulk,a1.eK,u0 e,u0 s]
 | .agg p=>by simp only [Rows.uptoBulk,a1.eK,u0 p]
 | .iface _ d=>by simp only [Rows.uptoBulk,a1.eK,xM d]
 | .map e=>by simp only [Rows.uptoBulk,a1.eK,G0 e]
 | .held _=>by simp only [Rows.uptoBulk,a1.eK]
theorem u0 {H:Type}:∀l:List (DataW H),Rows.uptoBulkAll l=a1.jA l
 | []=>rfl
 | d::r=>by simp only [Rows.uptoBulkAll,a1.jA,xM d,u0 r]
theorem G0 {H:Type}:∀l:List (Lit × DataW H),Rows.uptoBulkEntries l=a1.xL l
 | []=>rfl
 | x::r=>by simp only [Rows.uptoBulkEntries,a1.xL,OV x,G0 r]
theorem OV {H:Type}:∀x:Lit × DataW H,Rows.uptoBulkEntry x=a1.Bf x
 | (l,d)=>by cases l<;>simp only [Rows.uptoBulkEntry,a1.Bf,xM d]
end
theorem bound {H:Type} {l:List (DataW H)} (aA:Rows.uptoSmall H l=true):a1.jA l≤1048576:=by
 rw [←u0]
 simpa [Rows.uptoSmall] using aA
set_option maxRecDepth 100000 in
theorem told (h:a1.ae) (xs:List a1.V) (aQ:a1.kK Tryz.prog h 1048576 Tryz.f3.params.toList xs):a1.bF Tryz.prog 3 xs h fun y _=>y=.bool true:=by
 rw [Tryz.params3] at aQ
 obtain ⟨a,dY,k,bl,n,rfl,aA,bb,U⟩:=a1.abz aQ
 obtain rfl:=a1.abA U
 obtain ⟨fU,len,g⟩:=a1.abB bb Tryz.underlying22 xR (by decide)
 obtain ⟨l,ai,L⟩:=aac g (by omega)
 exact R6 l (by omega) a h L
theorem witness {H:Type} {enc:TypeId × Value→H} {C:Checked} {os:Os} {f:FuncId} {fn:Func} {s:OpenSpec} {conds:List PathCond} {apart:Bool} {laid:List (String × DataW Unit)} (modest:Bool) (aw:World) (args:Array Value) (lB:aw.os=os)
 (vJ:(aw.forCall (fun _ _=>0) ⟨#[],args,[]⟩).Shaped C.prog)
 (bg:Input.okWideB C.prog (aw.forCall (fun _ _=>0) ⟨#[],args,[]⟩) f ⟨#[],args,[]⟩=true)
 (DQ:s.preRow enc C.prog fn conds apart laid (aw.forCall (fun _ _=>0) ⟨#[],args,[]⟩).memory args):
 ∃(w:World) (tape:Tape) (i:Input),w.os=os∧(w.forCall tape i).Shaped C.prog∧i.vars=[]∧Input.okWide C.prog (w.forCall tape i) .any w.heap.size f i∧
  s.preRow enc C.prog fn conds apart laid (w.forCall tape i).memory i.args∧({modest:=modest}:Assume).holds C.prog (lone (Frame.enter C.prog f i.args .normal) [] (w.forCall tape i)):=
 ⟨aw,fun _ _=>0,⟨#[],args,[]⟩,lB,vJ,(Input.okWide_of_okWideB (base:=0) bg).1,(Input.okWide_of_okWideB bg).2,DQ,by
   simp only [Assume.holds]
   exact ⟨by simp,by simp,fun _=>Modest.zero,by simp,by simp⟩⟩
set_option maxRecDepth 100000 in
theorem lifted (os:Os) (started:os.Started) (H:Type) (enc:TypeId × Value→H) (F:Stop.Interp):
 ReturnsInHanded {} Tryz.checked os 3 .any ((Rows.OpenSpec.upto Rows.treeChecksSpec).preRow enc Tryz.prog Tryz.f3 Rows.treeChecksUptoRow.domain false Rows.treeChecksUptoRow.laid) (((Rows.OpenSpec.upto Rows.treeChecksSpec).at F).post enc Tryz.prog Tryz.f3 false true false false):=by
 refine returnsInHanded_of_row (C:=Tryz.checked) (s:=Rows.OpenSpec.upto Rows.treeChecksSpec) own started (by kernel_rfl) Tryz.func3
  (witness (enc:=enc) (C:=Tryz.checked) (os:=os) false (World.laidAll Tryz.prog os Rows.treeChecksUptoRow.laid) #[.slice none 0 0] (World.laidAll_os _ _ _)
    (World.shaped_of_ZipB (by kernel_rfl) (by kernel_rfl)) (by kernel_rfl)
    (OpenSpec.preRow_of_cond 8 (x:=([.nil],[],[])) (by kernel_rfl) (by kernel_rfl) (fun k aA=>by cases aA;kernel_rfl) (by kernel_rfl)
      (by rw [MakeChecks.laidMetH_plain _ _ _ (by kernel_rfl)];exact laidMet_laidAll _ (by kernel_rfl) (by kernel_rfl)))) ?_
 intro W base args ds gs before D0 s5 _ aA _ cy vJ _
 rw [MakeChecks.laidMetH_plain _ _ _ (by kernel_rfl)] at cy
 refine a1.Yx (s:=Rows.treeChecksSpec) (FM:=4) tiled laidOut (by kernel_rfl) rfl (by kernel_rfl) Tryz.underlying4 (fun ds ai=>?_) told (bound (aA _ rfl)) (YY (fun _ h=>h) cy vJ) c2 ⟨_,Tryz.func3,by kernel_rfl⟩ D0 s5
 match ds,ai with
 | [d1],_=>rfl
theorem over:Rows.treeChecksUptoRow.holds Tryz.pinned (Rows.OpenSpec.upto Rows.treeChecksSpec):=
 OpenClaim.holds_of_cond 3 Tryz.f3 rfl rfl rfl rfl rfl rfl rfl ⟨rfl,rfl,rfl,rfl,rfl⟩ rfl rfl rfl rfl rfl (by kernel_rfl) Tryz.func3 (by kernel_rfl)
  (of_decide_eq_true (by kernel_rfl)) (by unfold Func.isWrapper;first | (rw [if_pos (by decide +kernel)];kernel_rfl) | (rw [if_neg (by decide +kernel)];exact ⟨rfl,rfl⟩))
  (fun os started H enc _ F=>by rw [OpenClaim.pre_eq_preRow];exact lifted os started H enc F)
theorem plain (f:FuncId) (fn:Func) (ax:Tryz.pinned.checked.prog.funcNamed "gimlet/gimletlaw16.TreeChecks"=some f) (gq:Tryz.pinned.checked.prog.funcs[f]? =some fn):
 true=Tryz.pinned.checked.prog.looks []∧∀(j:Nat) t,fn.params[j]? =some t→Tryz.pinned.checked.prog.wantsStandIn t=false:=by
 obtain rfl:f=3:=Option.some.inj ((show Tryz.prog.funcNamed "gimlet/gimletlaw16.TreeChecks"=some 3 by kernel_rfl).symm.trans ax) |>.symm
 obtain rfl:fn=Tryz.f3:=(Option.some.inj (Tryz.func3.symm.trans gq)).symm
 refine ⟨by kernel_rfl,fun j t aC=>?_⟩
 rw [Tryz.params3] at aC
 have hm:t ∈ [22]:=by simpa using Array.mem_of_getElem? aC
 have cU:([22].all fun u=>!Tryz.prog.wantsStandIn u)=true:=by kernel_rfl
 exact (show Tryz.prog.wantsStandIn t=false by simpa using List.all_eq_true.1 cU t hm)
theorem proved:Rows.TreeChecksUptoCardSaid:=
 Claim7.holds_tied_plain_at .later [] [.data,.data,.data,.data,.sentinel,.sentinel,.pinned] true (true, "34d0c3dc1db3f6800712e2b427fe4f73bf3590ea4edb4a6c37dd404b252008c8") true
  over (fun _ h=>by cases h) (by kernel_rfl) (fun _ h=>by cases h) treeChecksUpto_row_tie rfl ⟨rfl,rfl⟩ (by kernel_rfl) rfl plain (by kernel_rfl)
#print axioms proved
end Go.Proofs.YtkehcalakofigaaGreatDoor.treeChecks
