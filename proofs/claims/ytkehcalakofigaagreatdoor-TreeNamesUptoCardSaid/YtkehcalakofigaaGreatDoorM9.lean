/- The abstract machine and its walks (a verified interpreter of the model's code: plain definitions and lemmas, no condition). Printed by a program from longer texts: names made short. -/
import Derived.Test.YtkehcalakofigaaGreatDoorM5
import Derived.Lib.Bytealg
set_option linter.unusedSectionVars false
set_option linter.unusedSimpArgs false
set_option linter.unusedVariables false
namespace Go.Proofs.YtkehcalakofigaaGreatDoor.aS
variable [Lay]
open Go Go.RowKit
theorem Zo {P:Program} {f:FuncId} (a1:Nat.beq f c7=false) {fn:Func} {e:Array Value→Sem Value} (aA:P.funcs[f]? =some fn) (aX:(fn.name == "runtime.NumGoroutine")=false) (ai:fn.body.isNone=true) (aa:Extern.findNext fn=none) (ae:Extern.find fn=some e)
 {args:List V} {v:V} {h:af} (he:∀E xs w,a_ E args xs→∃x,(e xs.toArray).run P w=.ok x w∧Rel E v x):eM P f args h v h:=by
 refine ⟨fun e=>by subst e;simp at a1,.inr fun az E w xs au s=>?_⟩
 obtain ⟨x,aJ,bs⟩:=he E xs w au
 refine ⟨E,x,w,?_,fun _ _ q=>q,bs,s⟩
 simp only [callFunc,Sem.run_bind,run_program,Result.andThen_ok,aA]
 rw [if_neg (by rw [aX];simp),if_pos ai]
 simp only [Sem.run_bind,aa,ae]
 have hm:(mark (.extern f)).run P w=.ok () w:=rfl
 rw [hm]
 simp only [Result.andThen_ok,aJ,Sem.run_pure]
theorem acK {P:Program} {f:FuncId} (a1:Nat.beq f c7=false) {fn:Func} (aA:P.funcs[f]? =some fn) (aX:(fn.name == "runtime.NumGoroutine")=false) (ai:fn.body.isNone=true) (aa:Extern.findNext fn=none) (ae:Extern.find fn=some Extern.BytealgIndexByte.indexByte)
 (s:List UInt8) (c:Int) (h:af):eM P f [.str s,.int .u8 c] h (.int .i64 (Lib.indexByte s c.toNat.toUInt8)) h:=by
 refine Zo a1 aA aX ai aa ae fun E xs w au=>?_
 obtain ⟨y,cm,rfl,al,z,gD,rfl,aq,rfl⟩:=au
 simp only [Rel] at al aq
 subst al aq
 exact ⟨_,Lib.run_indexByteString _ _ _,by simp [Rel]⟩
end Go.Proofs.YtkehcalakofigaaGreatDoor.aS
