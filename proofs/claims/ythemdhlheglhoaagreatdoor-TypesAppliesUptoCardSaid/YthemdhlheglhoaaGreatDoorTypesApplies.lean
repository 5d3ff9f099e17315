/- The law TypesApplies of the types chapter (substitutions applied), proved by the abstract machine. -/
import Derived.Test.YthemdhlheglhoaaGreatDoorM14
import Derived.Test.YthemdhlheglhoaaGreatDoorM16
import Derived.Test.YthemdhlheglhoaaGreatDoorM5
import Derived.WalkKit
import Derived.ProofKit
import Derived.OpenShut
import Derived.ChangeSame
import Derived.SevenTiedAt
import Derived.Deep.DeepHandedRow
import Derived.Test.YthemdhlheglhoaaGreatDoorCards
import Derived.Test.YthemdhlheglhoaaGreatDoorTie
set_option linter.unusedSectionVars false
set_option linter.unusedSimpArgs false
set_option linter.unusedVariables false
namespace Go.Proofs.YthemdhlheglhoaaGreatDoor.typesApplies
open Go.ChangeShapes Go.WideShapes Go.ChangeAt Go.RowKit
theorem own:ownKnob Tryz.prog.godebug=none:=by kernel_rfl
theorem tiled:a6.sJ Tryz.prog=true:=by kernel_rfl
theorem laidOut:laidOutB Tryz.prog=true:=by kernel_rfl
mutual
theorem yz {H:Type}:∀d:DataW H,Rows.uptoBulk d=a6.e2 d
 | .lit l=>by cases l<;>simp only [Rows.uptoBulk,a6.e2]
 | .nil=>by simp only [Rows.uptoBulk,a6.e2]
 | .ptr d=>by simp only [Rows.uptoBulk,a6.e2,yz d]
 | .slice e s=>by simp only [Rows.uptoBulk,a6.e2,vU e,vU s]
 | .agg p=>by simp only [Rows.uptoBulk,a6.e2,vU p]
 | .iface _ d=>by simp only [Rows.uptoBulk,a6.e2,yz d]
 | .map e=>by simp only [Rows.uptoBulk,a6.e2,Ig e]
 | .held _=>by simp only [Rows.uptoBulk,a6.e2]
theorem vU {H:Type}:∀l:List (DataW H),Rows.uptoBulkAll l=a6.j_ l
 | []=>rfl
 | d::r=>by simp only [Rows.uptoBulkAll,a6.j_,yz d,vU r]
theorem Ig {H:Type}:∀l:List (Lit × DataW H),Rows.uptoBulkEntries l=a6.yy l
 | []=>rfl
 | x::r=>by simp only [Rows.uptoBulkEntries,a6.yy,Q2 x,Ig r]
theorem Q2 {H:Type}:∀x:Lit × DataW H,Rows.uptoBulkEntry x=a6.Ce x
 | (l,d)=>by cases l<;>simp only [Rows.uptoBulkEntry,a6.Ce,yz d]
end
theorem bound {H:Type} {l:List (DataW H)} (ax:Rows.uptoSmall H l=true):a6.j_ l≤1048576:=by
 rw [←vU]
 simpa [Rows.uptoSmall] using ax
set_option maxRecDepth 100000 in
theorem told (h:a6.af) (xs:List a6.V) (aQ:a6.lb Tryz.prog h 1048576 Tryz.f5.params.toList xs):a6.bI Tryz.prog 5 xs h fun y _=>y=.bool true:=by
 rw [Tryz.params5] at aQ
 obtain ⟨a,eK,k,bp,n,rfl,ax,a_,aa⟩:=a6.N2 aQ
 obtain ⟨a2,afF,b0,agn,gr,rfl,rV,ae,aI⟩:=a6.N2 aa
 obtain rfl:=a6.adP aI
 obtain ⟨gF,len,g⟩:=a6.adQ a_ Tryz.underlying26 IL (by decide)
 obtain ⟨s,fx,ey,S⟩:=acj g (by omega)
 obtain ⟨ws,rfl,g2⟩:=a6.adR ae Tryz.underlying35
 obtain ⟨t,Bo,_,st⟩:=F0 gr g2 (by omega)
 exact Qn s (by omega) (fun p ag=>by have:=ey p ag;omega) t (by omega) a ws h S Bo
theorem witness {H:Type} {enc:TypeId × Value→H} {C:Checked} {os:Os} {f:FuncId} {fn:Func} {s:OpenSpec} {conds:List PathCond} {apart:Bool} {laid:List (String × DataW Unit)} (modest:Bool) (ar:World) (args:Array Value) (l2:ar.os=os)
 (gB:(ar.forCall (fun _ _=>0) ⟨#[],args,[]⟩).Shaped C.prog)
 (bu:Input.okWideB C.prog (ar.forCall (fun _ _=>0) ⟨#[],args,[]⟩) f ⟨#[],args,[]⟩=true)
 (EX:s.preRow enc C.prog fn conds apart laid (ar.forCall (fun _ _=>0) ⟨#[],args,[]⟩).memory args):
 ∃(w:World) (tape:Tape) (i:Input),w.os=os∧(w.forCall tape i).Shaped C.prog∧i.vars=[]∧Input.okWide C.prog (w.forCall tape i) .any w.heap.size f i∧
  s.preRow enc C.prog fn conds apart laid (w.forCall tape i).memory i.args∧({modest:=modest}:Assume).holds C.prog (lone (Frame.enter C.prog f i.args .normal) [] (w.forCall tape i)):=
 ⟨ar,fun _ _=>0,⟨#[],args,[]⟩,l2,gB,(Input.okWide_of_okWideB (base:=0) bu).1,(Input.okWide_of_okWideB bu).2,EX,by
   simp only [Assume.holds]
   exact ⟨by simp,by simp,fun _=>Modest.zero,by simp,by simp⟩⟩
set_option maxRecDepth 100000 in
theorem lifted (os:Os) (started:os.Started) (H:Type) (enc:TypeId × Value→H) (F:Stop.Interp):
 ReturnsInHanded {} Tryz.checked os 5 .any ((Rows.OpenSpec.upto Rows.typesAppliesSpec).preRow enc Tryz.prog Tryz.f5 Rows.typesAppliesUptoRow.domain false Rows.typesAppliesUptoRow.laid) (((Rows.OpenSpec.upto Rows.typesAppliesSpec).at F).post enc Tryz.prog Tryz.f5 false true false false):=by
 refine returnsInHanded_of_row (C:=Tryz.checked) (s:=Rows.OpenSpec.upto Rows.typesAppliesSpec) own started (by kernel_rfl) Tryz.func5
  (witness (enc:=enc) (C:=Tryz.checked) (os:=os) false (World.laidAll Tryz.prog os Rows.typesAppliesUptoRow.laid) #[.slice none 0 0,.agg #[.int .i64 0,.int .i64 0,.string ⟨⟨[]⟩⟩,.slice none 0 0]] (World.laidAll_os _ _ _)
    (World.shaped_of_ZipB (by kernel_rfl) (by kernel_rfl)) (by kernel_rfl)
    (OpenSpec.preRow_of_cond 8 (x:=([.nil,.agg [.lit (.int .i64 0),.lit (.int .i64 0),.lit (.string []),.nil]],[],[])) (by kernel_rfl) (by kernel_rfl) (fun k ax=>by cases ax;kernel_rfl) (by kernel_rfl)
      (by rw [MakeChecks.laidMetH_plain _ _ _ (by kernel_rfl)];exact laidMet_laidAll _ (by kernel_rfl) (by kernel_rfl)))) ?_
 intro W base args ds gs before E7 tH _ ax _ dW gB _
 rw [MakeChecks.laidMetH_plain _ _ _ (by kernel_rfl)] at dW
 refine a6.aaE (s:=Rows.typesAppliesSpec) (G7:=4) tiled laidOut (by kernel_rfl) rfl (by kernel_rfl) Tryz.underlying4 (fun ds ai=>?_) told (bound (ax _ rfl)) (aa7 (fun _ h=>h) dW gB) dc ⟨_,Tryz.func5,by kernel_rfl⟩ E7 tH
 match ds,ai with
 | [d1,d2],_=>rfl
theorem over:Rows.typesAppliesUptoRow.holds Tryz.pinned (Rows.OpenSpec.upto Rows.typesAppliesSpec):=
 OpenClaim.holds_of_cond 5 Tryz.f5 rfl rfl rfl rfl rfl rfl rfl ⟨rfl,rfl,rfl,rfl,rfl⟩ rfl rfl rfl rfl rfl (by kernel_rfl) Tryz.func5 (by kernel_rfl)
  (of_decide_eq_true (by kernel_rfl)) (by unfold Func.isWrapper;first | (rw [if_pos (by decide +kernel)];kernel_rfl) | (rw [if_neg (by decide +kernel)];exact ⟨rfl,rfl⟩))
  (fun os started H enc _ F=>by rw [OpenClaim.pre_eq_preRow];exact lifted os started H enc F)
theorem plain (f:FuncId) (fn:Func) (av:Tryz.pinned.checked.prog.funcNamed "gimlet/gimletlaw19.TypesApplies"=some f) (ix:Tryz.pinned.checked.prog.funcs[f]? =some fn):
 true=Tryz.pinned.checked.prog.looks []∧∀(j:Nat) t,fn.params[j]? =some t→Tryz.pinned.checked.prog.wantsStandIn t=false:=by
 obtain rfl:f=5:=Option.some.inj ((show Tryz.prog.funcNamed "gimlet/gimletlaw19.TypesApplies"=some 5 by kernel_rfl).symm.trans av) |>.symm
 obtain rfl:fn=Tryz.f5:=(Option.some.inj (Tryz.func5.symm.trans ix)).symm
 refine ⟨by kernel_rfl,fun j t aA=>?_⟩
 rw [Tryz.params5] at aA
 have hm:t ∈ [26,35]:=by simpa using Array.mem_of_getElem? aA
 have dL:([26,35].all fun u=>!Tryz.prog.wantsStandIn u)=true:=by kernel_rfl
 exact (show Tryz.prog.wantsStandIn t=false by simpa using List.all_eq_true.1 dL t hm)
theorem proved:Rows.TypesAppliesUptoCardSaid:=
 Claim7.holds_tied_plain_at .later [] [.data,.data,.data,.data,.sentinel,.sentinel,.pinned] true (true, "fd282c945bc828b13af569b0c305e3ea8f7e6da945325eb930921411db30dfc6") true
  over (fun _ h=>by cases h) (by kernel_rfl) (fun _ h=>by cases h) typesAppliesUpto_row_tie rfl ⟨rfl,rfl⟩ (by kernel_rfl) rfl plain (by kernel_rfl)
#print axioms proved
end Go.Proofs.YthemdhlheglhoaaGreatDoor.typesApplies
