/- A part without its places is the same, as deep, as large, with the same names; for arguments of bulk at most 1,048,576. -/
import Derived.Test.YtkehcalakofigaaGreatDoorM16
import Derived.Test.YtkehcalakofigaaGreatDoorM18
import Derived.Test.YtkehcalakofigaaGreatDoorM5
import Derived.WalkKit
import Derived.ProofKit
import Derived.OpenShut
import Derived.ChangeSame
import Derived.SevenTiedAt
import Derived.Deep.DeepHandedRow
import Derived.Test.YtkehcalakofigaaGreatDoorCards
import Derived.Test.YtkehcalakofigaaGreatDoorTie
set_option linter.unusedSectionVars false
set_option linter.unusedSimpArgs false
set_option linter.unusedVariables false
namespace Go.Proofs.YtkehcalakofigaaGreatDoor.treePlain
open Go.ChangeShapes Go.WideShapes Go.ChangeAt Go.RowKit
theorem own:ownKnob Tryz.prog.godebug=none:=by kernel_rfl
theorem tiled:aS.tq Tryz.prog=true:=by kernel_rfl
theorem laidOut:laidOutB Tryz.prog=true:=by kernel_rfl
mutual
theorem zO {H:Type}:∀d:DataW H,Rows.uptoBulk d=aS.eU d
 | .lit l=>by cases l<;>simp only [Rows.uptoBulk,aS.eU]
 | .nil=>by simp only [Rows.uptoBulk,aS.eU]
 | .ptr d=>by simp only [Rows.uptoBulk,aS.eU,zO d]
 | .slice e s=>by simp only [Rows.uptoBulk,aS.eU,wJ e,wJ s]
 | .agg p=>by simp only [Rows.uptoBulk,aS.eU,wJ p]
 | .iface _ d=>by simp only [Rows.uptoBulk,aS.eU,zO d]
 | .map e=>by simp only [Rows.uptoBulk,aS.eU,J1 e]
 | .held _=>by simp only [Rows.uptoBulk,aS.eU]
theorem wJ {H:Type}:∀l:List (DataW H),Rows.uptoBulkAll l=aS.kd l
 | []=>rfl
 | d::r=>by simp only [Rows.uptoBulkAll,aS.kd,zO d,wJ r]
theorem J1 {H:Type}:∀l:List (Lit × DataW H),Rows.uptoBulkEntries l=aS.zN l
 | []=>rfl
 | x::r=>by simp only [Rows.uptoBulkEntries,aS.zN,S7 x,J1 r]
theorem S7 {H:Type}:∀x:Lit × DataW H,Rows.uptoBulkEntry x=aS.DB x
 | (l,d)=>by cases l<;>simp only [Rows.uptoBulkEntry,aS.DB,zO d]
end
theorem bound {H:Type} {l:List (DataW H)} (aA:Rows.uptoSmall H l=true):aS.kd l≤1048576:=by
 rw [←wJ]
 simpa [Rows.uptoSmall] using aA
set_option maxRecDepth 100000 in
theorem told (h:aS.af) (xs:List aS.V) (aQ:aS.lx Tryz.prog h 1048576 Tryz.f7.params.toList xs):aS.bM Tryz.prog 7 xs h fun y _=>y=.bool true:=by
 rw [Tryz.params7] at aQ
 obtain ⟨a,eg,k,bl,n,rfl,aA,ba,aa⟩:=aS.afN aQ
 obtain rfl:=aS.afO aa
 obtain ⟨ad,rfl,g⟩:=aS.afP ba Tryz.underlying30
 obtain ⟨t,Ri,_,st⟩:=Oy n g (by omega)
 exact aeL t (by omega) ad h Ri
theorem witness {H:Type} {enc:TypeId × Value→H} {C:Checked} {os:Os} {f:FuncId} {fn:Func} {s:OpenSpec} {conds:List PathCond} {apart:Bool} {laid:List (String × DataW Unit)} (modest:Bool) (au:World) (args:Array Value) (mh:au.os=os)
 (xH:(au.forCall (fun _ _=>0) ⟨#[],args,[]⟩).Shaped C.prog)
 (bt:Input.okWideB C.prog (au.forCall (fun _ _=>0) ⟨#[],args,[]⟩) f ⟨#[],args,[]⟩=true)
 (Gk:s.preRow enc C.prog fn conds apart laid (au.forCall (fun _ _=>0) ⟨#[],args,[]⟩).memory args):
 ∃(w:World) (tape:Tape) (i:Input),w.os=os∧(w.forCall tape i).Shaped C.prog∧i.vars=[]∧Input.okWide C.prog (w.forCall tape i) .any w.heap.size f i∧
  s.preRow enc C.prog fn conds apart laid (w.forCall tape i).memory i.args∧({modest:=modest}:Assume).holds C.prog (lone (Frame.enter C.prog f i.args .normal) [] (w.forCall tape i)):=
 ⟨au,fun _ _=>0,⟨#[],args,[]⟩,mh,xH,(Input.okWide_of_okWideB (base:=0) bt).1,(Input.okWide_of_okWideB bt).2,Gk,by
   simp only [Assume.holds]
   exact ⟨by simp,by simp,fun _=>Modest.zero,by simp,by simp⟩⟩
set_option maxRecDepth 100000 in
theorem lifted (os:Os) (started:os.Started) (H:Type) (enc:TypeId × Value→H) (F:Stop.Interp):
 ReturnsInHanded {} Tryz.checked os 7 .any ((Rows.OpenSpec.upto Rows.treePlainSpec).preRow enc Tryz.prog Tryz.f7 Rows.treePlainUptoRow.domain false Rows.treePlainUptoRow.laid) (((Rows.OpenSpec.upto Rows.treePlainSpec).at F).post enc Tryz.prog Tryz.f7 false true false false):=by
 refine returnsInHanded_of_row (C:=Tryz.checked) (s:=Rows.OpenSpec.upto Rows.treePlainSpec) own started (by kernel_rfl) Tryz.func7
  (witness (enc:=enc) (C:=Tryz.checked) (os:=os) false (World.laidAll Tryz.prog os Rows.treePlainUptoRow.laid) #[.agg #[.int .i64 0,.int .i64 0,.int .i64 0,.string ⟨⟨[]⟩⟩,.slice none 0 0]] (World.laidAll_os _ _ _)
    (World.shaped_of_ZipB (by kernel_rfl) (by kernel_rfl)) (by kernel_rfl)
    (OpenSpec.preRow_of_cond 8 (x:=([.agg [.lit (.int .i64 0),.lit (.int .i64 0),.lit (.int .i64 0),.lit (.string []),.nil]],[],[])) (by kernel_rfl) (by kernel_rfl) (fun k aA=>by cases aA;kernel_rfl) (by kernel_rfl)
      (by rw [MakeChecks.laidMetH_plain _ _ _ (by kernel_rfl)];exact laidMet_laidAll _ (by kernel_rfl) (by kernel_rfl)))) ?_
 intro W base args ds gs before Gu uE _ aA _ cV xH _
 rw [MakeChecks.laidMetH_plain _ _ _ (by kernel_rfl)] at cV
 refine aS.acB (s:=Rows.treePlainSpec) (It:=4) tiled laidOut (by kernel_rfl) rfl (by kernel_rfl) Tryz.underlying4 (fun ds ai=>?_) told (bound (aA _ rfl)) (ac5 (fun _ h=>h) cV xH) dq ⟨_,Tryz.func7,by kernel_rfl⟩ Gu uE
 match ds,ai with
 | [d1],_=>rfl
theorem over:Rows.treePlainUptoRow.holds Tryz.pinned (Rows.OpenSpec.upto Rows.treePlainSpec):=
 OpenClaim.holds_of_cond 7 Tryz.f7 rfl rfl rfl rfl rfl rfl rfl ⟨rfl,rfl,rfl,rfl,rfl⟩ rfl rfl rfl rfl rfl (by kernel_rfl) Tryz.func7 (by kernel_rfl)
  (of_decide_eq_true (by kernel_rfl)) (by unfold Func.isWrapper;first | (rw [if_pos (by decide +kernel)];kernel_rfl) | (rw [if_neg (by decide +kernel)];exact ⟨rfl,rfl⟩))
  (fun os started H enc _ F=>by rw [OpenClaim.pre_eq_preRow];exact lifted os started H enc F)
theorem plain (f:FuncId) (fn:Func) (ax:Tryz.pinned.checked.prog.funcNamed "gimlet/gimletlaw16.TreePlain"=some f) (gG:Tryz.pinned.checked.prog.funcs[f]? =some fn):
 true=Tryz.pinned.checked.prog.looks []∧∀(j:Nat) t,fn.params[j]? =some t→Tryz.pinned.checked.prog.wantsStandIn t=false:=by
 obtain rfl:f=7:=Option.some.inj ((show Tryz.prog.funcNamed "gimlet/gimletlaw16.TreePlain"=some 7 by kernel_rfl).symm.trans ax) |>.symm
 obtain rfl:fn=Tryz.f7:=(Option.some.inj (Tryz.func7.symm.trans gG)).symm
 refine ⟨by kernel_rfl,fun j t aD=>?_⟩
 rw [Tryz.params7] at aD
 have hm:t ∈ [30]:=by simpa using Array.mem_of_getElem? aD
 have dm:([30].all fun u=>!Tryz.prog.wantsStandIn u)=true:=by kernel_rfl
 exact (show Tryz.prog.wantsStandIn t=false by simpa using List.all_eq_true.1 dm t hm)
theorem proved:Rows.TreePlainUptoCardSaid:=
 Claim7.holds_tied_plain_at .later [] [.data,.data,.data,.data,.sentinel,.sentinel,.pinned] true (true, "34d0c3dc1db3f6800712e2b427fe4f73bf3590ea4edb4a6c37dd404b252008c8") true
  over (fun _ h=>by cases h) (by kernel_rfl) (fun _ h=>by cases h) treePlainUpto_row_tie rfl ⟨rfl,rfl⟩ (by kernel_rfl) rfl plain (by kernel_rfl)
#print axioms proved
end Go.Proofs.YtkehcalakofigaaGreatDoor.treePlain
