/- The law TypesOrder of the types chapter (to be more general is an order), proved by the abstract machine. -/
import Derived.Test.YthemdhlheglhoaaGreatDoorM16
import Derived.Test.YthemdhlheglhoaaGreatDoorM5
import Derived.WalkKit
import Derived.ProofKit
import Derived.OpenShut
import Derived.ChangeSame
import Derived.SevenTiedAt
import Derived.Deep.DeepHandedRow
import Derived.Test.YthemdhlheglhoaaGreatDoorCards
import Derived.Test.YthemdhlheglhoaaGreatDoorTie
set_option linter.unusedSectionVars false
set_option linter.unusedSimpArgs false
set_option linter.unusedVariables false
namespace Go.Proofs.YthemdhlheglhoaaGreatDoor.typesOrder
open Go.ChangeShapes Go.WideShapes Go.ChangeAt Go.RowKit
theorem own:ownKnob Tryz.prog.godebug=none:=by kernel_rfl
theorem tiled:aY.uF Tryz.prog=true:=by kernel_rfl
theorem laidOut:laidOutB Tryz.prog=true:=by kernel_rfl
mutual
theorem z7 {H:Type}:∀d:DataW H,Rows.uptoBulk d=aY.fG d
 | .lit l=>by cases l<;>simp only [Rows.uptoBulk,aY.fG]
 | .nil=>by simp only [Rows.uptoBulk,aY.fG]
 | .ptr d=>by simp only [Rows.uptoBulk,aY.fG,z7 d]
 | .slice e s=>by simp only [Rows.uptoBulk,aY.fG,xy e,xy s]
 | .agg p=>by simp only [Rows.uptoBulk,aY.fG,xy p]
 | .iface _ d=>by simp only [Rows.uptoBulk,aY.fG,z7 d]
 | .map e=>by simp only [Rows.uptoBulk,aY.fG,JD e]
 | .held _=>by simp only [Rows.uptoBulk,aY.fG]
theorem xy {H:Type}:∀l:List (DataW H),Rows.uptoBulkAll l=aY.lF l
 | []=>rfl
 | d::r=>by simp only [Rows.uptoBulkAll,aY.lF,z7 d,xy r]
theorem JD {H:Type}:∀l:List (Lit × DataW H),Rows.uptoBulkEntries l=aY.z6 l
 | []=>rfl
 | x::r=>by simp only [Rows.uptoBulkEntries,aY.z6,R7 x,JD r]
theorem R7 {H:Type}:∀x:Lit × DataW H,Rows.uptoBulkEntry x=aY.DI x
 | (l,d)=>by cases l<;>simp only [Rows.uptoBulkEntry,aY.DI,z7 d]
end
theorem bound {H:Type} {l:List (DataW H)} (ay:Rows.uptoSmall H l=true):aY.lF l≤1048576:=by
 rw [←xy]
 simpa [Rows.uptoSmall] using ay
set_option maxRecDepth 100000 in
theorem told (h:aY.af) (xs:List aY.V) (aO:aY.mT Tryz.prog h 1048576 Tryz.f6.params.toList xs):aY.b_ Tryz.prog 6 xs h fun y _=>y=.bool true:=by
 rw [Tryz.params6] at aO
 obtain ⟨a,fi,k,bp,n,rfl,ay,a6,aa⟩:=aY.H0 aO
 obtain ⟨a2,afP,b',agw,ha,rfl,FD,ae,aH⟩:=aY.H0 aa
 obtain ⟨a3,afQ,gG,agx,n3,rfl,age,bf,cB⟩:=aY.H0 aH
 obtain rfl:=aY.adX cB
 obtain ⟨us,rfl,g1⟩:=aY.H2 a6 Tryz.underlying35
 obtain ⟨ad,rfl,g2⟩:=aY.H2 ae Tryz.underlying35
 obtain ⟨ws,rfl,g3⟩:=aY.H2 bf Tryz.underlying35
 obtain ⟨t1,H1,_,s1⟩:=BX n g1 (by omega)
 obtain ⟨t2,cG,_,s2⟩:=BX ha g2 (by omega)
 obtain ⟨t3,CQ,_,kQ⟩:=BX n3 g3 (by omega)
 exact acB t1 t2 t3 (by omega) (by omega) (by omega) us ad ws h H1 cG CQ
theorem witness {H:Type} {enc:TypeId × Value→H} {C:Checked} {os:Os} {f:FuncId} {fn:Func} {s:OpenSpec} {conds:List PathCond} {apart:Bool} {laid:List (String × DataW Unit)} (modest:Bool) (aq:World) (args:Array Value) (nU:aq.os=os)
 (oW:(aq.forCall (fun _ _=>0) ⟨#[],args,[]⟩).Shaped C.prog)
 (bA:Input.okWideB C.prog (aq.forCall (fun _ _=>0) ⟨#[],args,[]⟩) f ⟨#[],args,[]⟩=true)
 (Ga:s.preRow enc C.prog fn conds apart laid (aq.forCall (fun _ _=>0) ⟨#[],args,[]⟩).memory args):
 ∃(w:World) (tape:Tape) (i:Input),w.os=os∧(w.forCall tape i).Shaped C.prog∧i.vars=[]∧Input.okWide C.prog (w.forCall tape i) .any w.heap.size f i∧
  s.preRow enc C.prog fn conds apart laid (w.forCall tape i).memory i.args∧({modest:=modest}:Assume).holds C.prog (lone (Frame.enter C.prog f i.args .normal) [] (w.forCall tape i)):=
 ⟨aq,fun _ _=>0,⟨#[],args,[]⟩,nU,oW,(Input.okWide_of_okWideB (base:=0) bA).1,(Input.okWide_of_okWideB bA).2,Ga,by
   simp only [Assume.holds]
   exact ⟨by simp,by simp,fun _=>Modest.zero,by simp,by simp⟩⟩
set_option maxRecDepth 100000 in
theorem lifted (os:Os) (started:os.Started) (H:Type) (enc:TypeId × Value→H) (F:Stop.Interp):
 ReturnsInHanded {} Tryz.checked os 6 .any ((Rows.OpenSpec.upto Rows.typesOrderSpec).preRow enc Tryz.prog Tryz.f6 Rows.typesOrderUptoRow.domain false Rows.typesOrderUptoRow.laid) (((Rows.OpenSpec.upto Rows.typesOrderSpec).at F).post enc Tryz.prog Tryz.f6 false true false false):=by
 refine returnsInHanded_of_row (C:=Tryz.checked) (s:=Rows.OpenSpec.upto Rows.typesOrderSpec) own started (by kernel_rfl) Tryz.func6
  (witness (enc:=enc) (C:=Tryz.checked) (os:=os) false (World.laidAll Tryz.prog os Rows.typesOrderUptoRow.laid) #[.agg #[.int .i64 0,.int .i64 0,.string ⟨⟨[]⟩⟩,.slice none 0 0],.agg #[.int .i64 0,.int .i64 0,.string ⟨⟨[]⟩⟩,.slice none 0 0],.agg #[.int .i64 0,.int .i64 0,.string ⟨⟨[]⟩⟩,.slice none 0 0]] (World.laidAll_os _ _ _)
    (World.shaped_of_ZipB (by kernel_rfl) (by kernel_rfl)) (by kernel_rfl)
    (OpenSpec.preRow_of_cond 8 (x:=([.agg [.lit (.int .i64 0),.lit (.int .i64 0),.lit (.string []),.nil],.agg [.lit (.int .i64 0),.lit (.int .i64 0),.lit (.string []),.nil],.agg [.lit (.int .i64 0),.lit (.int .i64 0),.lit (.string []),.nil]],[],[])) (by kernel_rfl) (by kernel_rfl) (fun k ay=>by cases ay;kernel_rfl) (by kernel_rfl)
      (by rw [MakeChecks.laidMetH_plain _ _ _ (by kernel_rfl)];exact laidMet_laidAll _ (by kernel_rfl) (by kernel_rfl)))) ?_
 intro W base args ds gs before Gj vw _ ay _ eO oW _
 rw [MakeChecks.laidMetH_plain _ _ _ (by kernel_rfl)] at eO
 refine aY.aaH (s:=Rows.typesOrderSpec) (Ih:=4) tiled laidOut (by kernel_rfl) rfl (by kernel_rfl) Tryz.underlying4 (fun ds ao=>?_) told (bound (ay _ rfl)) (aa' (fun _ h=>h) eO oW) eQ ⟨_,Tryz.func6,by kernel_rfl⟩ Gj vw
 match ds,ao with
 | [d1,d2,d3],_=>rfl
theorem over:Rows.typesOrderUptoRow.holds Tryz.pinned (Rows.OpenSpec.upto Rows.typesOrderSpec):=
 OpenClaim.holds_of_cond 6 Tryz.f6 rfl rfl rfl rfl rfl rfl rfl ⟨rfl,rfl,rfl,rfl,rfl⟩ rfl rfl rfl rfl rfl (by kernel_rfl) Tryz.func6 (by kernel_rfl)
  (of_decide_eq_true (by kernel_rfl)) (by unfold Func.isWrapper;first | (rw [if_pos (by decide +kernel)];kernel_rfl) | (rw [if_neg (by decide +kernel)];exact ⟨rfl,rfl⟩))
  (fun os started H enc _ F=>by rw [OpenClaim.pre_eq_preRow];exact lifted os started H enc F)
theorem plain (f:FuncId) (fn:Func) (ar:Tryz.pinned.checked.prog.funcNamed "gimlet/gimletlaw19.TypesOrder"=some f) (jU:Tryz.pinned.checked.prog.funcs[f]? =some fn):
 true=Tryz.pinned.checked.prog.looks []∧∀(j:Nat) t,fn.params[j]? =some t→Tryz.pinned.checked.prog.wantsStandIn t=false:=by
 obtain rfl:f=6:=Option.some.inj ((show Tryz.prog.funcNamed "gimlet/gimletlaw19.TypesOrder"=some 6 by kernel_rfl).symm.trans ar) |>.symm
 obtain rfl:fn=Tryz.f6:=(Option.some.inj (Tryz.func6.symm.trans jU)).symm
 refine ⟨by kernel_rfl,fun j t ax=>?_⟩
 rw [Tryz.params6] at ax
 have hm:t ∈ [35,35,35]:=by simpa using Array.mem_of_getElem? ax
 have ev:([35,35,35].all fun u=>!Tryz.prog.wantsStandIn u)=true:=by kernel_rfl
 exact (show Tryz.prog.wantsStandIn t=false by simpa using List.all_eq_true.1 ev t hm)
theorem proved:Rows.TypesOrderUptoCardSaid:=
 Claim7.holds_tied_plain_at .later [] [.data,.data,.data,.data,.sentinel,.sentinel,.pinned] true (true, "fd282c945bc828b13af569b0c305e3ea8f7e6da945325eb930921411db30dfc6") true
  over (fun _ h=>by cases h) (by kernel_rfl) (fun _ h=>by cases h) typesOrderUpto_row_tie rfl ⟨rfl,rfl⟩ (by kernel_rfl) rfl plain (by kernel_rfl)
#print axioms proved
end Go.Proofs.YthemdhlheglhoaaGreatDoor.typesOrder
