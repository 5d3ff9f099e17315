/- The abstract machine and its walks (a verified interpreter of the model's code: plain definitions and lemmas, no condition). Printed by a program from longer texts: names made short. -/
import Derived.Test.YtkehcalakofigaaGreatDoorM5
import Derived.Lib.Bytealg
set_option linter.unusedSectionVars false
set_option linter.unusedSimpArgs false
set_option linter.unusedVariables false
namespace Go.Proofs.YtkehcalakofigaaGreatDoor.aS
variable [Lay]
open Go Go.RowKit
theorem WS {P:Program} {f:FuncId} (a6:Nat.beq f cR=false) {fn:Func} {e:Array Value→Sem Value} (ax:P.funcs[f]? =some fn) (aZ:(fn.name == "runtime.NumGoroutine")=false) (ag:fn.body.isNone=true) (aa:Extern.findNext fn=none) (ae:Extern.find fn=some e)
 {args:List V} {v:V} {h:af} (he:∀E xs w,a8 E args xs→∃x,(e xs.toArray).run P w=.ok x w∧Rel E v x):eS P f args h v h:=by
 refine ⟨fun e=>by subst e;simp at a6,.inr fun au E w xs ak s=>?_⟩
 obtain ⟨x,aH,bp⟩:=he E xs w ak
 refine ⟨E,x,w,?_,fun _ _ q=>q,bp,s⟩
 simp only [callFunc,Sem.run_bind,run_program,Result.andThen_ok,ax]
 rw [if_neg (by rw [aZ];simp),if_pos ag]
 simp only [Sem.run_bind,aa,ae]
 have hm:(mark (.extern f)).run P w=.ok () w:=rfl
 rw [hm]
 simp only [Result.andThen_ok,aH,Sem.run_pure]
theorem aam {P:Program} {f:FuncId} (a6:Nat.beq f cR=false) {fn:Func} (ax:P.funcs[f]? =some fn) (aZ:(fn.name == "runtime.NumGoroutine")=false) (ag:fn.body.isNone=true) (aa:Extern.findNext fn=none) (ae:Extern.find fn=some Extern.BytealgIndexByte.indexByte)
 (s:List UInt8) (c:Int) (h:af):eS P f [.str s,.int .u8 c] h (.int .i64 (Lib.indexByte s c.toNat.toUInt8)) h:=by
 refine WS a6 ax aZ ag aa ae fun E xs w ak=>?_
 obtain ⟨y,b',rfl,aq,z,fX,rfl,av,rfl⟩:=ak
 simp only [Rel] at aq av
 subst aq av
 exact ⟨_,Lib.run_indexByteString _ _ _,by simp [Rel]⟩
end Go.Proofs.YtkehcalakofigaaGreatDoor.aS
