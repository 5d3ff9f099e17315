/- The abstract machine and its walks (a verified interpreter of the model's code: plain definitions and lemmas, no condition). Printed by a program from longer texts: names made short. -/
import Derived.Test.YtefceblncmdkhaaGreatDoorM5
import Derived.Lib.Bytealg
set_option linter.unusedSectionVars false
set_option linter.unusedSimpArgs false
set_option linter.unusedVariables false
set_option maxHeartbeats 64000000
noncomputable section
namespace Go.Proofs.YtefceblncmdkhaaGreatDoor.bd
section
open Go Go.RowKit
variable [Lay]
theorem Z7 {P:Program} {f:FuncId} (bc:Nat.beq f dv=false) {fn:Func} {e:Array Value->Sem Value} (aA:P.funcs[f]? =some fn) (aX:(fn.name == "runtime.NumGoroutine")=false) (aj:fn.body.isNone=true) (J:Extern.findNext fn=none) (ad:Extern.find fn=some e)
 {args:List V} {v:V} {h:ah} (he:∀E xs w,bm E args xs->∃x,(e xs.toArray).run P w=.ok x w/\Rel E v x):ff P f args h v h:=by
 refine ⟨fun e=>by subst e;simp at bc,.inr fun aB E w xs ar s=>?_⟩;obtain ⟨x,aJ,bB⟩:=he E xs w ar;refine ⟨E,x,w,?_,fun _ _ q=>q,bB,s⟩;simp only [callFunc,Sem.run_bind,run_program,Result.andThen_ok,aA];rw [am7 (by rw [aX];simp),anb aj];simp only [Sem.run_bind,J,ad];have hm:(mark (.extern f)).run P w=.ok () w:=rfl;rw [hm];simp only [Result.andThen_ok,aJ,Sem.run_pure]
theorem ads {P:Program} {f:FuncId} (bc:Nat.beq f dv=false) {fn:Func} (aA:P.funcs[f]? =some fn) (aX:(fn.name == "runtime.NumGoroutine")=false) (aj:fn.body.isNone=true) (J:Extern.findNext fn=none) (ad:Extern.find fn=some Extern.BytealgIndexByte.indexByte)
 (s:List UInt8) (c:Int) (h:ah):ff P f [.str s,.int .u8 c] h (.int .i64 (Lib.indexByte s c.toNat.toUInt8)) h:=by
 refine Z7 bc aA aX aj J ad fun E xs w ar=>?_;obtain ⟨y,cS,rfl,ag,z,pU,rfl,av,rfl⟩:=ar;simp only [Rel] at ag av;subst ag av;exact ⟨_,Lib.run_indexByteString _ _ _,by simp [Rel]⟩
end
end Go.Proofs.YtefceblncmdkhaaGreatDoor.bd
