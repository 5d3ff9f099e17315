/- The abstract machine and its walks (a verified interpreter of the model's code: plain definitions and lemmas, no condition). Printed by a program from longer texts: names made short. -/
import Derived.Test.YtgmhjhgoamjeeaaGreatDoorM4
import Derived.Lib.Bytealg
set_option linter.unusedSectionVars false
set_option linter.unusedSimpArgs false
set_option linter.unusedVariables false
set_option maxHeartbeats 64000000
noncomputable section
namespace Go.Proofs.YtgmhjhgoamjeeaaGreatDoor.a7
section
open Go Go.RowKit
variable [Lay]
theorem acp {P:Program} {f:FuncId} (a6:Nat.beq f dy=false) {fn:Func} {e:Array Value->Sem Value} (aF:P.funcs[f]? =some fn) (aW:(fn.name == "runtime.NumGoroutine")=false) (ak:fn.body.isNone=true) (aa:Extern.findNext fn=none) (ae:Extern.find fn=some e)
 {args:List V} {v:V} {h:ag} (he:∀E xs w,bj E args xs->∃x,(e xs.toArray).run P w=.ok x w/\Rel E v x):e4 P f args h v h:=by
 refine ⟨fun e=>by subst e;simp at a6,.inr fun aC E w xs ao s=>?_⟩;obtain ⟨x,aD,bz⟩:=he E xs w ao;refine ⟨E,x,w,?_,fun _ _ q=>q,bz,s⟩;simp only [callFunc,Sem.run_bind,run_program,Result.andThen_ok,aF];rw [aqa (by rw [aW];simp),aqf ak];simp only [Sem.run_bind,aa,ae];have hm:(mark (.extern f)).run P w=.ok () w:=rfl;rw [hm];simp only [Result.andThen_ok,aD,Sem.run_pure]
theorem af9 {P:Program} {f:FuncId} (a6:Nat.beq f dy=false) {fn:Func} (aF:P.funcs[f]? =some fn) (aW:(fn.name == "runtime.NumGoroutine")=false) (ak:fn.body.isNone=true) (aa:Extern.findNext fn=none) (ae:Extern.find fn=some Extern.BytealgIndexByte.indexByte)
 (s:List UInt8) (c:Int) (h:ag):e4 P f [.str s,.int .u8 c] h (.int .i64 (Lib.indexByte s c.toNat.toUInt8)) h:=by
 refine acp a6 aF aW ak aa ae fun E xs w ao=>?_;obtain ⟨y,cy,rfl,al,z,vw,rfl,au,rfl⟩:=ao;simp only [Rel] at al au;subst al au;exact ⟨_,Lib.run_indexByteString _ _ _,by simp [Rel]⟩
end
end Go.Proofs.YtgmhjhgoamjeeaaGreatDoor.a7
