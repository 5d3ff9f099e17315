/- CoreAnew, for arguments up to the bound: a program that is numbered anew does the same, in as many steps, binds so many variables from that number on, and is numbered anew as it is. -/
import Derived.Test.YtjbiefneffiogaaGreatM10
import Derived.WalkKit
import Derived.ProofKit
import Derived.OpenShut
import Derived.ChangeSame
import Derived.JoinedCond
set_option linter.unusedSectionVars false
set_option linter.unusedSimpArgs false
set_option linter.unusedVariables false
namespace Go.Proofs.YtjbiefneffiogaaGreat.coreAnew
open Go.ChangeShapes Go.WideShapes Go.ChangeAt Go.RowKit
theorem own:ownKnob Tryz.prog.godebug=none:=by kernel_rfl
theorem tiled:ba.uo Tryz.prog=true:=by kernel_rfl
theorem laidOut:laidOutB Tryz.prog=true:=by kernel_rfl
mutual
theorem zm {H:Type}:∀d:DataW H,Rows.uptoBulk d=ba.fG d
 | .lit l=>by cases l<;>simp only [Rows.uptoBulk,ba.fG]
 | .nil=>by simp only [Rows.uptoBulk,ba.fG]
 | .ptr d=>by simp only [Rows.uptoBulk,ba.fG,zm d]
 | .slice e s=>by simp only [Rows.uptoBulk,ba.fG,wY e,wY s]
 | .agg p=>by simp only [Rows.uptoBulk,ba.fG,wY p]
 | .iface _ d=>by simp only [Rows.uptoBulk,ba.fG,zm d]
 | .map e=>by simp only [Rows.uptoBulk,ba.fG,Hs e]
 | .held _=>by simp only [Rows.uptoBulk,ba.fG]
theorem wY {H:Type}:∀l:List (DataW H),Rows.uptoBulkAll l=ba.lg l
 | []=>rfl
 | d::r=>by simp only [Rows.uptoBulkAll,ba.lg,zm d,wY r]
theorem Hs {H:Type}:∀l:List (Lit × DataW H),Rows.uptoBulkEntries l=ba.zl l
 | []=>rfl
 | x::r=>by simp only [Rows.uptoBulkEntries,ba.zl,QK x,Hs r]
theorem QK {H:Type}:∀x:Lit × DataW H,Rows.uptoBulkEntry x=ba.CS x
 | (l,d)=>by cases l<;>simp only [Rows.uptoBulkEntry,ba.CS,zm d]
end
theorem bound {H:Type} {l:List (DataW H)} (al:Rows.uptoSmall H l=true):ba.lg l≤1048576:=by
 rw [←wY]
 simpa [Rows.uptoSmall] using al
set_option maxRecDepth 100000 in
theorem told (h:ba.ag) (xs:List ba.V) (bk:ba.mj Tryz.prog h 1048576 Tryz.f9.params.toList xs):ba.bR Tryz.prog 9 xs h fun y _=>y=.bool true:=by
 rw [Tryz.params9] at bk
 obtain ⟨a,ho,k,bK,n,rfl,al,ao,ab⟩:=ba.Bp bk
 obtain ⟨bJ,ad7,b8,pO,gf,rfl,U4,af,aK⟩:=ba.Bp ab
 obtain ⟨a3,ad8,fp,ae1,ae5,rfl,DZ,bM,e8⟩:=ba.Bp aK
 obtain ⟨a4,ad9,h8,ae2,ZB,rfl,xv,fZ,cn⟩:=ba.Bp e8
 obtain rfl:=ba.ab3 cn
 obtain ⟨ad,rfl,g⟩:=ba.ab5 ao Tryz.underlying26
 obtain ⟨c,H,au⟩:=Ms n g
 obtain ⟨i2,rfl,nG⟩:=ba.NZ af Tryz.underlying3
 obtain ⟨eS,len,bz⟩:=ba.ab4 bM Tryz.underlying27 Sj (by decide)
 obtain ⟨bc,iX,kT⟩:=aaj bz
 obtain ⟨i4,rfl,_⟩:=ba.NZ fZ Tryz.underlying3
 have mJ:i2≤9223372036854775807:=by
  simp only [Lit.wf,Bool.and_eq_true,decide_eq_true_eq] at nG
  exact nG.2
 exact P8 c (fit.up (by omega) c au) ad h H i2 mJ iX (by omega) i4
set_option maxRecDepth 100000 in
theorem lifted (os:Os) (started:os.Started) (H:Type) (enc:TypeId × Value→H) (F:Stop.Interp):
 ReturnsInHanded {} Tryz.checked os 9 .any ((Rows.OpenSpec.upto Rows.coreAnewSpec).pre6 enc Tryz.prog Tryz.f9 Rows.coreAnewUptoRow.domain false) (((Rows.OpenSpec.upto Rows.coreAnewSpec).at F).post enc Tryz.prog Tryz.f9 false true false false):=by
 refine returnsInHanded_of_cond (C:=Tryz.checked) (s:=Rows.OpenSpec.upto Rows.coreAnewSpec) (k:=Rows.uptoSmall) rfl own started (by kernel_rfl) Tryz.func9
  (OpenSpec.witness (enc:=enc) (C:=Tryz.checked) (s:=Rows.OpenSpec.upto Rows.coreAnewSpec) (k:=Rows.uptoSmall) rfl false ⟨#[],#[.agg #[.int .i64 0,.int .i64 0,.int .i64 0,.string ⟨#[]⟩,.slice none 0 0,.slice none 0 0,.slice none 0 0],.int .i64 0,.slice none 0 0,.int .i64 0],[]⟩ 8 (by kernel_rfl) (by kernel_rfl) (by kernel_rfl)
    (x:=([.agg [.lit (.int .i64 0),.lit (.int .i64 0),.lit (.int .i64 0),.lit (.string []),.nil,.nil,.nil],.lit (.int .i64 0),.nil,.lit (.int .i64 0)],[],[])) (by kernel_rfl) rfl (by kernel_rfl)) ?_
 intro W base args ds gs before tr va _ al _
 refine ba.YT (s:=Rows.coreAnewSpec) (F5:=4) tiled laidOut (by kernel_rfl) rfl (by kernel_rfl) Tryz.underlying4 (fun ds aB=>?_) told (bound al) trivial E4 ⟨_,Tryz.func9,by kernel_rfl⟩ tr va
 match ds,aB with
 | [d1,d2,d3,d4],_=>rfl
theorem hF:Rows.coreAnewUptoRow.holds Tryz.pinned (Rows.OpenSpec.upto Rows.coreAnewSpec):=
 OpenClaim.holds_of_cond 9 Tryz.f9 rfl rfl rfl rfl rfl rfl rfl ⟨rfl,rfl,rfl,rfl,rfl⟩ rfl rfl rfl rfl rfl (by kernel_rfl) Tryz.func9 (by kernel_rfl)
  (of_decide_eq_true (by kernel_rfl)) (by unfold Func.isWrapper;first | (rw [if_pos (by decide +kernel)];kernel_rfl) | (rw [if_neg (by decide +kernel)];exact ⟨rfl,rfl⟩))
  (fun os started H enc _ F=>lifted os started H enc F)
theorem proved:Rows.CoreAnewUptoSaid:=
 hF
#print axioms proved
end Go.Proofs.YtjbiefneffiogaaGreat.coreAnew
