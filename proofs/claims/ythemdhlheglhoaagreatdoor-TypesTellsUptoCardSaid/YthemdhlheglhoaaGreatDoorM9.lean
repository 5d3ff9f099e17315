/- The abstract machine and its walks (a verified interpreter of the model's code: plain definitions and lemmas, no condition). Printed by a program from longer texts: names made short. -/
import Derived.Test.YthemdhlheglhoaaGreatDoorM5
import Derived.Lib.Bytealg
set_option linter.unusedSectionVars false
set_option linter.unusedSimpArgs false
set_option linter.unusedVariables false
namespace Go.Proofs.YthemdhlheglhoaaGreatDoor.aX
variable [Lay]
open Go Go.RowKit
theorem aaS {P:Program} {f:FuncId} (a_:Nat.beq f dk=false) {fn:Func} {e:Array Value→Sem Value} (ay:P.funcs[f]? =some fn) (aU:(fn.name == "runtime.NumGoroutine")=false) (ag:fn.body.isNone=true) (ab:Extern.findNext fn=none) (ae:Extern.find fn=some e)
 {args:List V} {v:V} {h:af} (he:∀E xs w,bc E args xs→∃x,(e xs.toArray).run P w=.ok x w∧Rel E v x):fh P f args h v h:=by
 refine ⟨fun e=>by subst e;simp at a_,.inr fun aw E w xs aq s=>?_⟩
 obtain ⟨x,aJ,bs⟩:=he E xs w aq
 refine ⟨E,x,w,?_,fun _ _ q=>q,bs,s⟩
 simp only [callFunc,Sem.run_bind,run_program,Result.andThen_ok,ay]
 rw [if_neg (by rw [aU];simp),if_pos ag]
 simp only [Sem.run_bind,ab,ae]
 have hm:(mark (.extern f)).run P w=.ok () w:=rfl
 rw [hm]
 simp only [Result.andThen_ok,aJ,Sem.run_pure]
theorem aec {P:Program} {f:FuncId} (a_:Nat.beq f dk=false) {fn:Func} (ay:P.funcs[f]? =some fn) (aU:(fn.name == "runtime.NumGoroutine")=false) (ag:fn.body.isNone=true) (ab:Extern.findNext fn=none) (ae:Extern.find fn=some Extern.BytealgIndexByte.indexByte)
 (s:List UInt8) (c:Int) (h:af):fh P f [.str s,.int .u8 c] h (.int .i64 (Lib.indexByte s c.toNat.toUInt8)) h:=by
 refine aaS a_ ay aU ag ab ae fun E xs w aq=>?_
 obtain ⟨y,cJ,rfl,an,z,iH,rfl,az,rfl⟩:=aq
 simp only [Rel] at an az
 subst an az
 exact ⟨_,Lib.run_indexByteString _ _ _,by simp [Rel]⟩
end Go.Proofs.YthemdhlheglhoaaGreatDoor.aX
