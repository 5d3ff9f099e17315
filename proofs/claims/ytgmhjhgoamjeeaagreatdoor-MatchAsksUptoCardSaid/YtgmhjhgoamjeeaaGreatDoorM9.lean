/- The abstract machine and its walks (a verified interpreter of the model's code: plain definitions and lemmas, no condition). Printed by a program from longer texts: names made short. -/
import Derived.Test.YtgmhjhgoamjeeaaGreatDoorM4
import Derived.Lib.Bytealg
set_option linter.unusedSectionVars false
set_option linter.unusedSimpArgs false
set_option linter.unusedVariables false
set_option maxHeartbeats 64000000
noncomputable section
namespace Go.Proofs.YtgmhjhgoamjeeaaGreatDoor.aZ
section
open Go Go.RowKit
variable [Lay]
theorem abC {P:Program} {f:FuncId} (a8:Nat.beq f dv=false) {fn:Func} {e:Array Value->Sem Value} (aB:P.funcs[f]? =some fn) (aV:(fn.name == "runtime.NumGoroutine")=false) (ah:fn.body.isNone=true) (U:Extern.findNext fn=none) (ab:Extern.find fn=some e)
 {args:List V} {v:V} {h:ae} (he:∀E xs w,bg E args xs->∃x,(e xs.toArray).run P w=.ok x w/\Rel E v x):eZ P f args h v h:=by
 refine ⟨fun e=>by subst e;simp at a8,.inr fun az E w xs ao s=>?_⟩;obtain ⟨x,aD,bA⟩:=he E xs w ao;refine ⟨E,x,w,?_,fun _ _ q=>q,bA,s⟩;simp only [callFunc,Sem.run_bind,run_program,Result.andThen_ok,aB];rw [apu (by rw [aV];simp),apB ah];simp only [Sem.run_bind,U,ab];have hm:(mark (.extern f)).run P w=.ok () w:=rfl;rw [hm];simp only [Result.andThen_ok,aD,Sem.run_pure]
theorem afp {P:Program} {f:FuncId} (a8:Nat.beq f dv=false) {fn:Func} (aB:P.funcs[f]? =some fn) (aV:(fn.name == "runtime.NumGoroutine")=false) (ah:fn.body.isNone=true) (U:Extern.findNext fn=none) (ab:Extern.find fn=some Extern.BytealgIndexByte.indexByte)
 (s:List UInt8) (c:Int) (h:ae):eZ P f [.str s,.int .u8 c] h (.int .i64 (Lib.indexByte s c.toNat.toUInt8)) h:=by
 refine abC a8 aB aV ah U ab fun E xs w ao=>?_;obtain ⟨y,cu,rfl,aj,z,vc,rfl,an,rfl⟩:=ao;simp only [Rel] at aj an;subst aj an;exact ⟨_,Lib.run_indexByteString _ _ _,by simp [Rel]⟩
end
end Go.Proofs.YtgmhjhgoamjeeaaGreatDoor.aZ
