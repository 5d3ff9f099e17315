/- CorePrims, for arguments up to the bound: what each prim makes of any two numbers, and of a text, is what the document says. -/
import Derived.Test.YtjbiefneffiogaaGreatM11
import Derived.WalkKit
import Derived.ProofKit
import Derived.OpenShut
import Derived.ChangeSame
import Derived.JoinedCond
set_option linter.unusedSectionVars false
set_option linter.unusedSimpArgs false
set_option linter.unusedVariables false
namespace Go.Proofs.YtjbiefneffiogaaGreat.corePrims
open Go.ChangeShapes Go.WideShapes Go.ChangeAt Go.RowKit
theorem own:ownKnob Tryz.prog.godebug=none:=by kernel_rfl
theorem tiled:bs.wZ Tryz.prog=true:=by kernel_rfl
theorem laidOut:laidOutB Tryz.prog=true:=by kernel_rfl
mutual
theorem Cn {H:Type}:∀d:DataW H,Rows.uptoBulk d=bs.g9 d
 | .lit l=>by cases l<;>simp only [Rows.uptoBulk,bs.g9]
 | .nil=>by simp only [Rows.uptoBulk,bs.g9]
 | .ptr d=>by simp only [Rows.uptoBulk,bs.g9,Cn d]
 | .slice e s=>by simp only [Rows.uptoBulk,bs.g9,zx e,zx s]
 | .agg p=>by simp only [Rows.uptoBulk,bs.g9,zx p]
 | .iface _ d=>by simp only [Rows.uptoBulk,bs.g9,Cn d]
 | .map e=>by simp only [Rows.uptoBulk,bs.g9,Kp e]
 | .held _=>by simp only [Rows.uptoBulk,bs.g9]
theorem zx {H:Type}:∀l:List (DataW H),Rows.uptoBulkAll l=bs.m_ l
 | []=>rfl
 | d::r=>by simp only [Rows.uptoBulkAll,bs.m_,Cn d,zx r]
theorem Kp {H:Type}:∀l:List (Lit × DataW H),Rows.uptoBulkEntries l=bs.Cm l
 | []=>rfl
 | x::r=>by simp only [Rows.uptoBulkEntries,bs.Cm,Tl x,Kp r]
theorem Tl {H:Type}:∀x:Lit × DataW H,Rows.uptoBulkEntry x=bs.FB x
 | (l,d)=>by cases l<;>simp only [Rows.uptoBulkEntry,bs.FB,Cn d]
end
theorem bound {H:Type} {l:List (DataW H)} (al:Rows.uptoSmall H l=true):bs.m_ l≤1048576:=by
 rw [←zx]
 simpa [Rows.uptoSmall] using al
set_option maxRecDepth 100000 in
theorem told (h:bs.ai) (xs:List bs.V) (aM:bs.oC Tryz.prog h 1048576 Tryz.f4.params.toList xs):bs.bB Tryz.prog 4 xs h fun y _=>y=.bool true:=by
 rw [Tryz.params4] at aM
 obtain ⟨a,kF,k,cb,n,rfl,al,aj,ad⟩:=bs.D_ aM
 obtain ⟨b1,ahj,cF,uF,eJ,rfl,XW,ak,aB⟩:=bs.D_ ad
 obtain ⟨a3,ahk,gS,aib,DB,rfl,rH,bw,ej⟩:=bs.D_ aB
 obtain ⟨a4,ahl,kL,aic,DC,rfl,Ah,gA,c6⟩:=bs.D_ ej
 obtain rfl:=bs.afx c6
 obtain ⟨i1,rfl,_⟩:=bs.IP aj Tryz.underlying3
 obtain ⟨i2,rfl,_⟩:=bs.IP ak Tryz.underlying3
 obtain ⟨i3,rfl,_⟩:=bs.IP bw Tryz.underlying3
 obtain ⟨s,rfl,aM⟩:=bs.afy gA Tryz.underlying9
 exact abB i1 i2 i3 s (by omega) h
set_option maxRecDepth 100000 in
theorem lifted (os:Os) (started:os.Started) (H:Type) (enc:TypeId × Value→H) (F:Stop.Interp):
 ReturnsInHanded {} Tryz.checked os 4 .any ((Rows.OpenSpec.upto Rows.corePrimsSpec).pre6 enc Tryz.prog Tryz.f4 Rows.corePrimsUptoRow.domain false) (((Rows.OpenSpec.upto Rows.corePrimsSpec).at F).post enc Tryz.prog Tryz.f4 false true false false):=by
 refine returnsInHanded_of_cond (C:=Tryz.checked) (s:=Rows.OpenSpec.upto Rows.corePrimsSpec) (k:=Rows.uptoSmall) rfl own started (by kernel_rfl) Tryz.func4
  (OpenSpec.witness (enc:=enc) (C:=Tryz.checked) (s:=Rows.OpenSpec.upto Rows.corePrimsSpec) (k:=Rows.uptoSmall) rfl false ⟨#[],#[.int .i64 0,.int .i64 0,.int .i64 0,.string ⟨#[]⟩],[]⟩ 8 (by kernel_rfl) (by kernel_rfl) (by kernel_rfl)
    (x:=([.lit (.int .i64 0),.lit (.int .i64 0),.lit (.int .i64 0),.lit (.string [])],[],[])) (by kernel_rfl) rfl (by kernel_rfl)) ?_
 intro W base args ds gs before qP qB _ al _
 refine bs.abC (s:=Rows.corePrimsSpec) (I1:=4) tiled laidOut (by kernel_rfl) rfl (by kernel_rfl) Tryz.underlying4 (fun ds aL=>?_) told (bound al) trivial HX ⟨_,Tryz.func4,by kernel_rfl⟩ qP qB
 match ds,aL with
 | [d1,d2,d3,d4],_=>rfl
theorem fJ:Rows.corePrimsUptoRow.holds Tryz.pinned (Rows.OpenSpec.upto Rows.corePrimsSpec):=
 OpenClaim.holds_of_cond 4 Tryz.f4 rfl rfl rfl rfl rfl rfl rfl ⟨rfl,rfl,rfl,rfl,rfl⟩ rfl rfl rfl rfl rfl (by kernel_rfl) Tryz.func4 (by kernel_rfl)
  (of_decide_eq_true (by kernel_rfl)) (by unfold Func.isWrapper;first | (rw [if_pos (by decide +kernel)];kernel_rfl) | (rw [if_neg (by decide +kernel)];exact ⟨rfl,rfl⟩))
  (fun os started H enc _ F=>lifted os started H enc F)
theorem proved:Rows.CorePrimsUptoSaid:=
 fJ
#print axioms proved
end Go.Proofs.YtjbiefneffiogaaGreat.corePrims
