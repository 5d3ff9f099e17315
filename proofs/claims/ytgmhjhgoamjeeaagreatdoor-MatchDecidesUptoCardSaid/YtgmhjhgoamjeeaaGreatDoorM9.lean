/- The abstract machine and its walks (a verified interpreter of the model's code: plain definitions and lemmas, no condition). Printed by a program from longer texts: names made short. -/
import Derived.Test.YtgmhjhgoamjeeaaGreatDoorM4
import Derived.Lib.Bytealg
set_option linter.unusedSectionVars false
set_option linter.unusedSimpArgs false
set_option linter.unusedVariables false
set_option maxHeartbeats 64000000
noncomputable section
namespace Go.Proofs.YtgmhjhgoamjeeaaGreatDoor.aX
section
open Go Go.RowKit
variable [Lay]
theorem adi {P:Program} {f:FuncId} (a6:Nat.beq f dB=false) {fn:Func} {e:Array Value->Sem Value} (av:P.funcs[f]? =some fn) (aV:(fn.name == "runtime.NumGoroutine")=false) (ah:fn.body.isNone=true) (aa:Extern.findNext fn=none) (ad:Extern.find fn=some e)
 {args:List V} {v:V} {h:ae} (he:∀E xs w,bh E args xs->∃x,(e xs.toArray).run P w=.ok x w/\Rel E v x):e4 P f args h v h:=by
 refine ⟨fun e=>by subst e;simp at a6,.inr fun aA E w xs ak s=>?_⟩;obtain ⟨x,aD,bt⟩:=he E xs w ak;refine ⟨E,x,w,?_,fun _ _ q=>q,bt,s⟩;simp only [callFunc,Sem.run_bind,run_program,Result.andThen_ok,av];rw [arw (by rw [aV];simp),arz ah];simp only [Sem.run_bind,aa,ad];have hm:(mark (.extern f)).run P w=.ok () w:=rfl;rw [hm];simp only [Result.andThen_ok,aD,Sem.run_pure]
theorem ahc {P:Program} {f:FuncId} (a6:Nat.beq f dB=false) {fn:Func} (av:P.funcs[f]? =some fn) (aV:(fn.name == "runtime.NumGoroutine")=false) (ah:fn.body.isNone=true) (aa:Extern.findNext fn=none) (ad:Extern.find fn=some Extern.BytealgIndexByte.indexByte)
 (s:List UInt8) (c:Int) (h:ae):e4 P f [.str s,.int .u8 c] h (.int .i64 (Lib.indexByte s c.toNat.toUInt8)) h:=by
 refine adi a6 av aV ah aa ad fun E xs w ak=>?_;obtain ⟨y,cx,rfl,al,z,vD,rfl,ao,rfl⟩:=ak;simp only [Rel] at al ao;subst al ao;exact ⟨_,Lib.run_indexByteString _ _ _,by simp [Rel]⟩
end
end Go.Proofs.YtgmhjhgoamjeeaaGreatDoor.aX
