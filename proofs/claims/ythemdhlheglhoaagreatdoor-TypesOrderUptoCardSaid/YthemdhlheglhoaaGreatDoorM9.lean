/- The abstract machine and its walks (a verified interpreter of the model's code: plain definitions and lemmas, no condition). Printed by a program from longer texts: names made short. -/
import Derived.Test.YthemdhlheglhoaaGreatDoorM5
import Derived.Lib.Bytealg
set_option linter.unusedSectionVars false
set_option linter.unusedSimpArgs false
set_option linter.unusedVariables false
namespace Go.Proofs.YthemdhlheglhoaaGreatDoor.aY
variable [Lay]
open Go Go.RowKit
theorem Vk {P:Program} {f:FuncId} (a7:Nat.beq f da=false) {fn:Func} {e:Array Value→Sem Value} (ar:P.funcs[f]? =some fn) (aS:(fn.name == "runtime.NumGoroutine")=false) (ah:fn.body.isNone=true) (aa:Extern.findNext fn=none) (ae:Extern.find fn=some e)
 {args:List V} {v:V} {h:af} (he:∀E xs w,a8 E args xs→∃x,(e xs.toArray).run P w=.ok x w∧Rel E v x):gp P f args h v h:=by
 refine ⟨fun e=>by subst e;simp at a7,.inr fun aq E w xs ak s=>?_⟩
 obtain ⟨x,aG,br⟩:=he E xs w ak
 refine ⟨E,x,w,?_,fun _ _ q=>q,br,s⟩
 simp only [callFunc,Sem.run_bind,run_program,Result.andThen_ok,ar]
 rw [if_neg (by rw [aS];simp),if_pos ah]
 simp only [Sem.run_bind,aa,ae]
 have hm:(mark (.extern f)).run P w=.ok () w:=rfl
 rw [hm]
 simp only [Result.andThen_ok,aG,Sem.run_pure]
theorem Yz {P:Program} {f:FuncId} (a7:Nat.beq f da=false) {fn:Func} (ar:P.funcs[f]? =some fn) (aS:(fn.name == "runtime.NumGoroutine")=false) (ah:fn.body.isNone=true) (aa:Extern.findNext fn=none) (ae:Extern.find fn=some Extern.BytealgIndexByte.indexByte)
 (s:List UInt8) (c:Int) (h:af):gp P f [.str s,.int .u8 c] h (.int .i64 (Lib.indexByte s c.toNat.toUInt8)) h:=by
 refine Vk a7 ar aS ah aa ae fun E xs w ak=>?_
 obtain ⟨y,cA,rfl,au,z,jg,rfl,az,rfl⟩:=ak
 simp only [Rel] at au az
 subst au az
 exact ⟨_,Lib.run_indexByteString _ _ _,by simp [Rel]⟩
end Go.Proofs.YthemdhlheglhoaaGreatDoor.aY
