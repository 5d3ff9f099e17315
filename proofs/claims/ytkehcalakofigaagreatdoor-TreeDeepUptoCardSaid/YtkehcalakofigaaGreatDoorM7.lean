/- The abstract machine and its walks (a verified interpreter of the model's code: plain definitions and lemmas, no condition). Printed by a program from longer texts: names made short. -/
import Derived.Test.YtkehcalakofigaaGreatDoorM5
import Derived.Lib.Bytealg
set_option linter.unusedSectionVars false
set_option linter.unusedSimpArgs false
set_option linter.unusedVariables false
namespace Go.Proofs.YtkehcalakofigaaGreatDoor.aY
variable [Lay]
open Go Go.RowKit
theorem Sx {P:Program} {f:FuncId} (a1:Nat.beq f cJ=false) {fn:Func} {e:Array Value→Sem Value} (ax:P.funcs[f]? =some fn) (a7:(fn.name == "runtime.NumGoroutine")=false) (af:fn.body.isNone=true) (U:Extern.findNext fn=none) (ad:Extern.find fn=some e)
 {args:List V} {v:V} {h:ae} (he:∀E xs w,aZ E args xs→∃x,(e xs.toArray).run P w=.ok x w∧Rel E v x):eh P f args h v h:=by
 refine ⟨fun e=>by subst e;simp at a1,.inr fun au E w xs ao s=>?_⟩
 obtain ⟨x,aH,bw⟩:=he E xs w ao
 refine ⟨E,x,w,?_,fun _ _ q=>q,bw,s⟩
 simp only [callFunc,Sem.run_bind,run_program,Result.andThen_ok,ax]
 rw [if_neg (by rw [a7];simp),if_pos af]
 simp only [Sem.run_bind,U,ad]
 have hm:(mark (.extern f)).run P w=.ok () w:=rfl
 rw [hm]
 simp only [Result.andThen_ok,aH,Sem.run_pure]
theorem VU {P:Program} {f:FuncId} (a1:Nat.beq f cJ=false) {fn:Func} (ax:P.funcs[f]? =some fn) (a7:(fn.name == "runtime.NumGoroutine")=false) (af:fn.body.isNone=true) (U:Extern.findNext fn=none) (ad:Extern.find fn=some Extern.BytealgIndexByte.indexByte)
 (s:List UInt8) (c:Int) (h:ae):eh P f [.str s,.int .u8 c] h (.int .i64 (Lib.indexByte s c.toNat.toUInt8)) h:=by
 refine Sx a1 ax a7 af U ad fun E xs w ao=>?_
 obtain ⟨y,bZ,rfl,ai,z,im,rfl,ay,rfl⟩:=ao
 simp only [Rel] at ai ay
 subst ai ay
 exact ⟨_,Lib.run_indexByteString _ _ _,by simp [Rel]⟩
end Go.Proofs.YtkehcalakofigaaGreatDoor.aY
