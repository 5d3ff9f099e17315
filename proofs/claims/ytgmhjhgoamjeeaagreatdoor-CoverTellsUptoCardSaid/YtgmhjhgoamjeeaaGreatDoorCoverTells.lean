/- CoverTells: whether patterns suit one another, and whether one is useful behind others, is told as the document says. -/
import Derived.Test.YtgmhjhgoamjeeaaGreatDoorM20
import Derived.Test.YtgmhjhgoamjeeaaGreatDoorM22
import Derived.Test.YtgmhjhgoamjeeaaGreatDoorM4
import Derived.WalkKit
import Derived.ProofKit
import Derived.OpenShut
import Derived.ChangeSame
import Derived.SevenTiedAt
import Derived.Deep.DeepHandedRow
import Derived.Test.YtgmhjhgoamjeeaaGreatDoorCards
import Derived.Test.YtgmhjhgoamjeeaaGreatDoorTie
set_option linter.unusedSectionVars false
set_option linter.unusedSimpArgs false
set_option linter.unusedVariables false
set_option maxHeartbeats 64000000
noncomputable section
namespace Go.Proofs.YtgmhjhgoamjeeaaGreatDoor.coverTells
open Go.ChangeShapes Go.WideShapes Go.ChangeAt Go.RowKit
theorem own:ownKnob Tryz.prog.godebug=none:=by kernel_rfl
theorem tiled:a7.xH Tryz.prog=true:=by kernel_rfl
theorem laidOut:laidOutB Tryz.prog=true:=by kernel_rfl
mutual
theorem Ea {H:Type}:∀d:DataW H,Rows.uptoBulk d=a7.gd d
 | .lit l=>by cases l<;>simp only [Rows.uptoBulk,a7.gd]
 | .nil=>by simp only [Rows.uptoBulk,a7.gd]
 | .ptr d=>by simp only [Rows.uptoBulk,a7.gd,Ea d]
 | .slice e s=>by simp only [Rows.uptoBulk,a7.gd,A' e,A' s]
 | .agg p=>by simp only [Rows.uptoBulk,a7.gd,A' p]
 | .iface _ d=>by simp only [Rows.uptoBulk,a7.gd,Ea d]
 | .map e=>by simp only [Rows.uptoBulk,a7.gd,N' e]
 | .held _=>by simp only [Rows.uptoBulk,a7.gd]
theorem A' {H:Type}:∀l:List (DataW H),Rows.uptoBulkAll l=a7.mO l
 | []=>rfl
 | d::r=>by simp only [Rows.uptoBulkAll,a7.mO,Ea d,A' r]
theorem N' {H:Type}:∀l:List (Lit × DataW H),Rows.uptoBulkEntries l=a7.D_ l
 | []=>rfl
 | x::r=>by simp only [Rows.uptoBulkEntries,a7.D_,Zi x,N' r]
theorem Zi {H:Type}:∀x:Lit × DataW H,Rows.uptoBulkEntry x=a7.Ib x
 | (l,d)=>by cases l<;>simp only [Rows.uptoBulkEntry,a7.Ib,Ea d]
end
theorem bound {H:Type} {l:List (DataW H)} (aA:Rows.uptoSmall H l=true):a7.mO l<=1048576:=by rw [<-A'];simpa [Rows.uptoSmall] using aA
set_option maxRecDepth 100000 in
theorem told (h:a7.ag) (xs:List a7.V) (aO:a7.ou Tryz.prog h 1048576 Tryz.f4.params.toList xs):a7.cr Tryz.prog 4 xs h fun y _=>y=.bool true:=by rw [Tryz.params4] at aO;obtain ⟨a,ff,k,bs,n,rfl,aA,a1,aa⟩:=a7.Mi aO;obtain ⟨a2,aov,cn,apc,dv,rfl,mo,ae,aM⟩:=a7.Mi aa;obtain ⟨a3,aow,fO,apd,n3,rfl,ao0,bw,cw⟩:=a7.Mi aM;obtain rfl:=a7.amB cw;obtain ⟨hn,len,g⟩:=a7.Wc a1 Tryz.underlying22 Qq (by decide);obtain ⟨apo,TV,g2⟩:=a7.Wc ae Tryz.underlying23 Ee (by decide);obtain ⟨ws,rfl,g3⟩:=a7.amC bw Tryz.underlying25;obtain ⟨cs,ie,C⟩:=akI g (by omega);obtain ⟨l,ls,L⟩:=akJ g2 (by omega);obtain ⟨t,Xv,_,st⟩:=Lt n3 g3 (by omega);exact anf cs (by omega) l t (by rw [xt,b0,b0];omega) a a2 ws h C L Xv
theorem witness {H:Type} {enc:TypeId × Value->H} {C:Checked} {os:Os} {f:FuncId} {fn:Func} {s:OpenSpec} {conds:List PathCond} {apart:Bool} {laid:List (String × DataW Unit)} (modest:Bool) (aC:World) (args:Array Value) (pC:aC.os=os)
 (B7:(aC.forCall (fun _ _=>0) ⟨#[],args,[]⟩).Shaped C.prog)
 (bx:Input.okWideB C.prog (aC.forCall (fun _ _=>0) ⟨#[],args,[]⟩) f ⟨#[],args,[]⟩=true)
 (afn:s.preRow enc C.prog fn conds apart laid (aC.forCall (fun _ _=>0) ⟨#[],args,[]⟩).memory args):
 ∃(w:World) (tape:Tape) (i:Input),w.os=os/\(w.forCall tape i).Shaped C.prog/\i.vars=[]/\Input.okWide C.prog (w.forCall tape i) .any w.heap.size f i/\
  s.preRow enc C.prog fn conds apart laid (w.forCall tape i).memory i.args/\({modest:=modest}:Assume).holds C.prog (lone (Frame.enter C.prog f i.args .normal) [] (w.forCall tape i)):=
 ⟨aC,fun _ _=>0,⟨#[],args,[]⟩,pC,B7,(Input.okWide_of_okWideB (base:=0) bx).1,(Input.okWide_of_okWideB bx).2,afn,by
   simp only [Assume.holds]
   exact ⟨by simp,by simp,fun _=>Modest.zero,by simp,by simp⟩⟩
set_option maxRecDepth 100000 in
theorem lifted (os:Os) (started:os.Started) (H:Type) (enc:TypeId × Value->H) (F:Stop.Interp):
 ReturnsInHanded {} Tryz.checked os 4 .any ((Rows.OpenSpec.upto Rows.coverTellsSpec).preRow enc Tryz.prog Tryz.f4 Rows.coverTellsUptoRow.domain false Rows.coverTellsUptoRow.laid) (((Rows.OpenSpec.upto Rows.coverTellsSpec).at F).post enc Tryz.prog Tryz.f4 false true false false):=by
 refine returnsInHanded_of_row (C:=Tryz.checked) (s:=Rows.OpenSpec.upto Rows.coverTellsSpec) own started (by kernel_rfl) Tryz.func4
  (witness (enc:=enc) (C:=Tryz.checked) (os:=os) false (World.laidAll Tryz.prog os Rows.coverTellsUptoRow.laid) #[.slice none 0 0,.slice none 0 0,.agg #[.int .i64 0,.int .i64 0,.int .i64 0,.string ⟨⟨[]⟩⟩,.slice none 0 0]] (World.laidAll_os _ _ _)
    (World.shaped_of_ZipB (by kernel_rfl) (by kernel_rfl)) (by kernel_rfl)
    (OpenSpec.preRow_of_cond 8 (x:=([.nil,.nil,.agg [.lit (.int .i64 0),.lit (.int .i64 0),.lit (.int .i64 0),.lit (.string []),.nil]],[],[])) (by kernel_rfl) (by kernel_rfl) (fun k aA=>by cases aA;kernel_rfl) (by kernel_rfl)
      (by rw [MakeChecks.laidMetH_plain _ _ _ (by kernel_rfl)];exact laidMet_laidAll _ (by kernel_rfl) (by kernel_rfl)))) ?_
 intro W base args ds gs before zl yM _ aA _ c0 B7 _;rw [MakeChecks.laidMetH_plain _ _ _ (by kernel_rfl)] at c0;refine a7.aiF (s:=Rows.coverTellsSpec) (MF:=4) tiled laidOut (by kernel_rfl) rfl (by kernel_rfl) Tryz.underlying4 (fun ds aw=>?_) told (bound (aA _ rfl)) (ajb (fun _ h=>h) c0 B7) zE ⟨_,Tryz.func4,by kernel_rfl⟩ zl yM
 match ds,aw with
 | [d1,d2,d3],_=>rfl
theorem over:Rows.coverTellsUptoRow.holds Tryz.pinned (Rows.OpenSpec.upto Rows.coverTellsSpec):=
 OpenClaim.holds_of_cond 4 Tryz.f4 rfl rfl rfl rfl rfl rfl rfl ⟨rfl,rfl,rfl,rfl,rfl⟩ rfl rfl rfl rfl rfl (by kernel_rfl) Tryz.func4 (by kernel_rfl)
  (of_decide_eq_true (by kernel_rfl)) (by unfold Func.isWrapper;first | (rw [aqf (by decide +kernel)];kernel_rfl) | (rw [aqa (by decide +kernel)];exact ⟨rfl,rfl⟩))
  (fun os started H enc _ F=>by rw [OpenClaim.pre_eq_preRow];exact lifted os started H enc F)
theorem plain (f:FuncId) (fn:Func) (aF:Tryz.pinned.checked.prog.funcNamed "gimlet/gimletlaw23.CoverTells"=some f) (hE:Tryz.pinned.checked.prog.funcs[f]? =some fn):
 true=Tryz.pinned.checked.prog.looks []/\∀(j:Nat) t,fn.params[j]? =some t->Tryz.pinned.checked.prog.wantsStandIn t=false:=by
 obtain rfl:f=4:=ars ((show Tryz.prog.funcNamed "gimlet/gimletlaw23.CoverTells"=some 4 by kernel_rfl).symm.trans aF) |>.symm;obtain rfl:fn=Tryz.f4:=(ars (Tryz.func4.symm.trans hE)).symm;refine ⟨by kernel_rfl,fun j t aK=>?_⟩;rw [Tryz.params4] at aK;have hm:t ∈ [22,23,25]:=by simpa using Array.mem_of_getElem? aK
 have c8:([22,23,25].all fun u=>!Tryz.prog.wantsStandIn u)=true:=by kernel_rfl
 exact (show Tryz.prog.wantsStandIn t=false by simpa using aqu.1 c8 t hm)
theorem proved:Rows.CoverTellsUptoCardSaid:=
 Claim7.holds_tied_plain_at .later [] [.data,.data,.data,.data,.sentinel,.sentinel,.pinned] true (true, "e5839d4b1bf30a1bdf932ce6c94dd6e8513916d7e6920b2fc84b52551d937462") true
  over (fun _ h=>by cases h) (by kernel_rfl) (fun _ h=>by cases h) coverTellsUpto_row_tie rfl ⟨rfl,rfl⟩ (by kernel_rfl) rfl plain (by kernel_rfl)
#print axioms proved
end Go.Proofs.YtgmhjhgoamjeeaaGreatDoor.coverTells
