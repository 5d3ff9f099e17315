/- CoreRuns, for arguments up to the bound: whatever the part, the input and the steps, the program and the document answer the same. -/
import Derived.Test.YtjbiefneffiogaaGreatM11
import Derived.WalkKit
import Derived.ProofKit
import Derived.OpenShut
import Derived.ChangeSame
import Derived.JoinedCond
set_option linter.unusedSectionVars false
set_option linter.unusedSimpArgs false
set_option linter.unusedVariables false
namespace Go.Proofs.YtjbiefneffiogaaGreat.coreRuns
open Go.ChangeShapes Go.WideShapes Go.ChangeAt Go.RowKit
theorem own:ownKnob Tryz.prog.godebug=none:=by kernel_rfl
theorem tiled:bA.wL Tryz.prog=true:=by kernel_rfl
theorem laidOut:laidOutB Tryz.prog=true:=by kernel_rfl
mutual
theorem B9 {H:Type}:∀d:DataW H,Rows.uptoBulk d=bA.hf d
 | .lit l=>by cases l<;>simp only [Rows.uptoBulk,bA.hf]
 | .nil=>by simp only [Rows.uptoBulk,bA.hf]
 | .ptr d=>by simp only [Rows.uptoBulk,bA.hf,B9 d]
 | .slice e s=>by simp only [Rows.uptoBulk,bA.hf,zi e,zi s]
 | .agg p=>by simp only [Rows.uptoBulk,bA.hf,zi p]
 | .iface _ d=>by simp only [Rows.uptoBulk,bA.hf,B9 d]
 | .map e=>by simp only [Rows.uptoBulk,bA.hf,Kh e]
 | .held _=>by simp only [Rows.uptoBulk,bA.hf]
theorem zi {H:Type}:∀l:List (DataW H),Rows.uptoBulkAll l=bA.nj l
 | []=>rfl
 | d::r=>by simp only [Rows.uptoBulkAll,bA.nj,B9 d,zi r]
theorem Kh {H:Type}:∀l:List (Lit × DataW H),Rows.uptoBulkEntries l=bA.B8 l
 | []=>rfl
 | x::r=>by simp only [Rows.uptoBulkEntries,bA.B8,Tx x,Kh r]
theorem Tx {H:Type}:∀x:Lit × DataW H,Rows.uptoBulkEntry x=bA.Fl x
 | (l,d)=>by cases l<;>simp only [Rows.uptoBulkEntry,bA.Fl,B9 d]
end
theorem bound {H:Type} {l:List (DataW H)} (an:Rows.uptoSmall H l=true):bA.nj l≤1048576:=by
 rw [←zi]
 simpa [Rows.uptoSmall] using an
set_option maxRecDepth 100000 in
theorem told (h:bA.aj) (xs:List bA.V) (aM:bA.oF Tryz.prog h 1048576 Tryz.f3.params.toList xs):bA.bB Tryz.prog 3 xs h fun y _=>y=.bool true:=by
 rw [Tryz.params3] at aM
 obtain ⟨a,iZ,k,cf,n,rfl,an,al,ae⟩:=bA.IT aM
 obtain ⟨b3,ahN,cB,uy,e6,rfl,Yh,ak,aC⟩:=bA.IT ae
 obtain ⟨a3,ahO,fX,aiB,PH,rfl,rC,bq,dZ⟩:=bA.IT aC
 obtain rfl:=bA.afW dZ
 obtain ⟨ai,rfl,g⟩:=bA.afZ al Tryz.underlying26
 obtain ⟨c,H,av⟩:=P0 n g
 obtain ⟨hY,len,bz⟩:=bA.afY ak Tryz.underlying27 VC (by decide)
 obtain ⟨aR,dX,mY⟩:=adz bz
 obtain ⟨i3,rfl,_⟩:=bA.afX bq Tryz.underlying3
 exact afK c (fit.up (by omega) c av) ai h H dX (by omega) i3
set_option maxRecDepth 100000 in
theorem lifted (os:Os) (started:os.Started) (H:Type) (enc:TypeId × Value→H) (F:Stop.Interp):
 ReturnsInHanded {} Tryz.checked os 3 .any ((Rows.OpenSpec.upto Rows.coreRunsSpec).pre6 enc Tryz.prog Tryz.f3 Rows.coreRunsUptoRow.domain false) (((Rows.OpenSpec.upto Rows.coreRunsSpec).at F).post enc Tryz.prog Tryz.f3 false true false false):=by
 refine returnsInHanded_of_cond (C:=Tryz.checked) (s:=Rows.OpenSpec.upto Rows.coreRunsSpec) (k:=Rows.uptoSmall) rfl own started (by kernel_rfl) Tryz.func3
  (OpenSpec.witness (enc:=enc) (C:=Tryz.checked) (s:=Rows.OpenSpec.upto Rows.coreRunsSpec) (k:=Rows.uptoSmall) rfl false ⟨#[],#[.agg #[.int .i64 0,.int .i64 0,.int .i64 0,.string ⟨#[]⟩,.slice none 0 0,.slice none 0 0,.slice none 0 0],.slice none 0 0,.int .i64 0],[]⟩ 8 (by kernel_rfl) (by kernel_rfl) (by kernel_rfl)
    (x:=([.agg [.lit (.int .i64 0),.lit (.int .i64 0),.lit (.int .i64 0),.lit (.string []),.nil,.nil,.nil],.nil,.lit (.int .i64 0)],[],[])) (by kernel_rfl) rfl (by kernel_rfl)) ?_
 intro W base args ds gs before qI qw _ an _
 refine bA.ab1 (s:=Rows.coreRunsSpec) (I4:=4) tiled laidOut (by kernel_rfl) rfl (by kernel_rfl) Tryz.underlying4 (fun ds aK=>?_) told (bound an) trivial H4 ⟨_,Tryz.func3,by kernel_rfl⟩ qI qw
 match ds,aK with
 | [d1,d2,d3],_=>rfl
theorem fQ:Rows.coreRunsUptoRow.holds Tryz.pinned (Rows.OpenSpec.upto Rows.coreRunsSpec):=
 OpenClaim.holds_of_cond 3 Tryz.f3 rfl rfl rfl rfl rfl rfl rfl ⟨rfl,rfl,rfl,rfl,rfl⟩ rfl rfl rfl rfl rfl (by kernel_rfl) Tryz.func3 (by kernel_rfl)
  (of_decide_eq_true (by kernel_rfl)) (by unfold Func.isWrapper;first | (rw [if_pos (by decide +kernel)];kernel_rfl) | (rw [if_neg (by decide +kernel)];exact ⟨rfl,rfl⟩))
  (fun os started H enc _ F=>lifted os started H enc F)
theorem proved:Rows.CoreRunsUptoSaid:=
 fQ
#print axioms proved
end Go.Proofs.YtjbiefneffiogaaGreat.coreRuns
