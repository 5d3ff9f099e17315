/- The law TypesTells of the types chapter (what the program tells of types, the document tells), proved by the abstract machine. -/
import Derived.Test.YthemdhlheglhoaaGreatDoorM16
import Derived.Test.YthemdhlheglhoaaGreatDoorM5
import Derived.WalkKit
import Derived.ProofKit
import Derived.OpenShut
import Derived.ChangeSame
import Derived.SevenTiedAt
import Derived.Deep.DeepHandedRow
import Derived.Test.YthemdhlheglhoaaGreatDoorCards
import Derived.Test.YthemdhlheglhoaaGreatDoorTie
set_option linter.unusedSectionVars false
set_option linter.unusedSimpArgs false
set_option linter.unusedVariables false
namespace Go.Proofs.YthemdhlheglhoaaGreatDoor.typesTells
open Go.ChangeShapes Go.WideShapes Go.ChangeAt Go.RowKit
theorem own:ownKnob Tryz.prog.godebug=none:=by kernel_rfl
theorem tiled:aX.u9 Tryz.prog=true:=by kernel_rfl
theorem laidOut:laidOutB Tryz.prog=true:=by kernel_rfl
mutual
theorem Bw {H:Type}:∀d:DataW H,Rows.uptoBulk d=aX.fx d
 | .lit l=>by cases l<;>simp only [Rows.uptoBulk,aX.fx]
 | .nil=>by simp only [Rows.uptoBulk,aX.fx]
 | .ptr d=>by simp only [Rows.uptoBulk,aX.fx,Bw d]
 | .slice e s=>by simp only [Rows.uptoBulk,aX.fx,yI e,yI s]
 | .agg p=>by simp only [Rows.uptoBulk,aX.fx,yI p]
 | .iface _ d=>by simp only [Rows.uptoBulk,aX.fx,Bw d]
 | .map e=>by simp only [Rows.uptoBulk,aX.fx,Mc e]
 | .held _=>by simp only [Rows.uptoBulk,aX.fx]
theorem yI {H:Type}:∀l:List (DataW H),Rows.uptoBulkAll l=aX.kY l
 | []=>rfl
 | d::r=>by simp only [Rows.uptoBulkAll,aX.kY,Bw d,yI r]
theorem Mc {H:Type}:∀l:List (Lit × DataW H),Rows.uptoBulkEntries l=aX.Bv l
 | []=>rfl
 | x::r=>by simp only [Rows.uptoBulkEntries,aX.Bv,V0 x,Mc r]
theorem V0 {H:Type}:∀x:Lit × DataW H,Rows.uptoBulkEntry x=aX.Fb x
 | (l,d)=>by cases l<;>simp only [Rows.uptoBulkEntry,aX.Fb,Bw d]
end
theorem bound {H:Type} {l:List (DataW H)} (aE:Rows.uptoSmall H l=true):aX.kY l≤1048576:=by
 rw [←yI]
 simpa [Rows.uptoSmall] using aE
set_option maxRecDepth 100000 in
theorem told (h:aX.af) (xs:List aX.V) (aQ:aX.mn Tryz.prog h 1048576 Tryz.f7.params.toList xs):aX.bB Tryz.prog 7 xs h fun y _=>y=.bool true:=by
 rw [Tryz.params7] at aQ
 obtain ⟨a,e9,k,bt,n,rfl,aE,bb,ab⟩:=aX.Sp aQ
 obtain ⟨a2,alG,bZ,amm,gq,rfl,sd,ae,aG⟩:=aX.Sp ab
 obtain rfl:=aX.ajD aG
 obtain ⟨us,rfl,g1⟩:=aX.Sq bb Tryz.underlying35
 obtain ⟨ad,rfl,g2⟩:=aX.Sq ae Tryz.underlying35
 obtain ⟨t1,H1,_,s1⟩:=Jg n g1 (by omega)
 obtain ⟨t2,cq,_,s2⟩:=Jg gq g2 (by omega)
 exact akg t1 t2 (by omega) (by omega) us ad h H1 cq
theorem witness {H:Type} {enc:TypeId × Value→H} {C:Checked} {os:Os} {f:FuncId} {fn:Func} {s:OpenSpec} {conds:List PathCond} {apart:Bool} {laid:List (String × DataW Unit)} (modest:Bool) (aw:World) (args:Array Value) (nt:aw.os=os)
 (eG:(aw.forCall (fun _ _=>0) ⟨#[],args,[]⟩).Shaped C.prog)
 (bF:Input.okWideB C.prog (aw.forCall (fun _ _=>0) ⟨#[],args,[]⟩) f ⟨#[],args,[]⟩=true)
 (Ib:s.preRow enc C.prog fn conds apart laid (aw.forCall (fun _ _=>0) ⟨#[],args,[]⟩).memory args):
 ∃(w:World) (tape:Tape) (i:Input),w.os=os∧(w.forCall tape i).Shaped C.prog∧i.vars=[]∧Input.okWide C.prog (w.forCall tape i) .any w.heap.size f i∧
  s.preRow enc C.prog fn conds apart laid (w.forCall tape i).memory i.args∧({modest:=modest}:Assume).holds C.prog (lone (Frame.enter C.prog f i.args .normal) [] (w.forCall tape i)):=
 ⟨aw,fun _ _=>0,⟨#[],args,[]⟩,nt,eG,(Input.okWide_of_okWideB (base:=0) bF).1,(Input.okWide_of_okWideB bF).2,Ib,by
   simp only [Assume.holds]
   exact ⟨by simp,by simp,fun _=>Modest.zero,by simp,by simp⟩⟩
set_option maxRecDepth 100000 in
theorem lifted (os:Os) (started:os.Started) (H:Type) (enc:TypeId × Value→H) (F:Stop.Interp):
 ReturnsInHanded {} Tryz.checked os 7 .any ((Rows.OpenSpec.upto Rows.typesTellsSpec).preRow enc Tryz.prog Tryz.f7 Rows.typesTellsUptoRow.domain false Rows.typesTellsUptoRow.laid) (((Rows.OpenSpec.upto Rows.typesTellsSpec).at F).post enc Tryz.prog Tryz.f7 false true false false):=by
 refine returnsInHanded_of_row (C:=Tryz.checked) (s:=Rows.OpenSpec.upto Rows.typesTellsSpec) own started (by kernel_rfl) Tryz.func7
  (witness (enc:=enc) (C:=Tryz.checked) (os:=os) false (World.laidAll Tryz.prog os Rows.typesTellsUptoRow.laid) #[.agg #[.int .i64 0,.int .i64 0,.string ⟨⟨[]⟩⟩,.slice none 0 0],.agg #[.int .i64 0,.int .i64 0,.string ⟨⟨[]⟩⟩,.slice none 0 0]] (World.laidAll_os _ _ _)
    (World.shaped_of_ZipB (by kernel_rfl) (by kernel_rfl)) (by kernel_rfl)
    (OpenSpec.preRow_of_cond 8 (x:=([.agg [.lit (.int .i64 0),.lit (.int .i64 0),.lit (.string []),.nil],.agg [.lit (.int .i64 0),.lit (.int .i64 0),.lit (.string []),.nil]],[],[])) (by kernel_rfl) (by kernel_rfl) (fun k aE=>by cases aE;kernel_rfl) (by kernel_rfl)
      (by rw [MakeChecks.laidMetH_plain _ _ _ (by kernel_rfl)];exact laidMet_laidAll _ (by kernel_rfl) (by kernel_rfl)))) ?_
 intro W base args ds gs before Ip wv _ aE _ ei eG _
 rw [MakeChecks.laidMetH_plain _ _ _ (by kernel_rfl)] at ei
 refine aX.agm (s:=Rows.typesTellsSpec) (Kp:=4) tiled laidOut (by kernel_rfl) rfl (by kernel_rfl) Tryz.underlying4 (fun ds ai=>?_) told (bound (aE _ rfl)) (agQ (fun _ h=>h) ei eG) cU ⟨_,Tryz.func7,by kernel_rfl⟩ Ip wv
 match ds,ai with
 | [d1,d2],_=>rfl
theorem over:Rows.typesTellsUptoRow.holds Tryz.pinned (Rows.OpenSpec.upto Rows.typesTellsSpec):=
 OpenClaim.holds_of_cond 7 Tryz.f7 rfl rfl rfl rfl rfl rfl rfl ⟨rfl,rfl,rfl,rfl,rfl⟩ rfl rfl rfl rfl rfl (by kernel_rfl) Tryz.func7 (by kernel_rfl)
  (of_decide_eq_true (by kernel_rfl)) (by unfold Func.isWrapper;first | (rw [if_pos (by decide +kernel)];kernel_rfl) | (rw [if_neg (by decide +kernel)];exact ⟨rfl,rfl⟩))
  (fun os started H enc _ F=>by rw [OpenClaim.pre_eq_preRow];exact lifted os started H enc F)
theorem plain (f:FuncId) (fn:Func) (ay:Tryz.pinned.checked.prog.funcNamed "gimlet/gimletlaw19.TypesTells"=some f) (jj:Tryz.pinned.checked.prog.funcs[f]? =some fn):
 true=Tryz.pinned.checked.prog.looks []∧∀(j:Nat) t,fn.params[j]? =some t→Tryz.pinned.checked.prog.wantsStandIn t=false:=by
 obtain rfl:f=7:=Option.some.inj ((show Tryz.prog.funcNamed "gimlet/gimletlaw19.TypesTells"=some 7 by kernel_rfl).symm.trans ay) |>.symm
 obtain rfl:fn=Tryz.f7:=(Option.some.inj (Tryz.func7.symm.trans jj)).symm
 refine ⟨by kernel_rfl,fun j t aF=>?_⟩
 rw [Tryz.params7] at aF
 have hm:t ∈ [35,35]:=by simpa using Array.mem_of_getElem? aF
 have d_:([35,35].all fun u=>!Tryz.prog.wantsStandIn u)=true:=by kernel_rfl
 exact (show Tryz.prog.wantsStandIn t=false by simpa using List.all_eq_true.1 d_ t hm)
theorem proved:Rows.TypesTellsUptoCardSaid:=
 Claim7.holds_tied_plain_at .later [] [.data,.data,.data,.data,.sentinel,.sentinel,.pinned] true (true, "fd282c945bc828b13af569b0c305e3ea8f7e6da945325eb930921411db30dfc6") true
  over (fun _ h=>by cases h) (by kernel_rfl) (fun _ h=>by cases h) typesTellsUpto_row_tie rfl ⟨rfl,rfl⟩ (by kernel_rfl) rfl plain (by kernel_rfl)
#print axioms proved
end Go.Proofs.YthemdhlheglhoaaGreatDoor.typesTells
