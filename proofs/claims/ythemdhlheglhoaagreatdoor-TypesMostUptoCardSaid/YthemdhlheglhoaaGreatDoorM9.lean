/- The abstract machine and its walks (a verified interpreter of the model's code: plain definitions and lemmas, no condition). Printed by a program from longer texts: names made short. -/
import Derived.Test.YthemdhlheglhoaaGreatDoorM4
import Derived.Lib.Bytealg
set_option linter.unusedSectionVars false
set_option linter.unusedSimpArgs false
set_option linter.unusedVariables false
set_option maxHeartbeats 64000000
noncomputable section
namespace Go.Proofs.YthemdhlheglhoaaGreatDoor.aY
section
open Go Go.RowKit
variable [Lay]
theorem ac1 {P:Program} {f:FuncId} (a1:Nat.beq f dt=false) {fn:Func} {e:Array Value->Sem Value} (aB:P.funcs[f]? =some fn) (aQ:(fn.name == "runtime.NumGoroutine")=false) (ae:fn.body.isNone=true) (aa:Extern.findNext fn=none) (ad:Extern.find fn=some e)
 {args:List V} {v:V} {h:ah} (he:∀E xs w,bh E args xs->∃x,(e xs.toArray).run P w=.ok x w/\Rel E v x):gI P f args h v h:=by
 refine ⟨fun e=>by subst e;simp at a1,.inr fun ay E w xs ai s=>?_⟩;obtain ⟨x,aG,ba⟩:=he E xs w ai;refine ⟨E,x,w,?_,fun _ _ q=>q,ba,s⟩;simp only [callFunc,Sem.run_bind,run_program,Result.andThen_ok,aB];rw [if_neg (by rw [aQ];simp),if_pos ae];simp only [Sem.run_bind,aa,ad];have hm:(mark (.extern f)).run P w=.ok () w:=rfl;rw [hm];simp only [Result.andThen_ok,aG,Sem.run_pure]
theorem agR {P:Program} {f:FuncId} (a1:Nat.beq f dt=false) {fn:Func} (aB:P.funcs[f]? =some fn) (aQ:(fn.name == "runtime.NumGoroutine")=false) (ae:fn.body.isNone=true) (aa:Extern.findNext fn=none) (ad:Extern.find fn=some Extern.BytealgIndexByte.indexByte)
 (s:List UInt8) (c:Int) (h:ah):gI P f [.str s,.int .u8 c] h (.int .i64 (Lib.indexByte s c.toNat.toUInt8)) h:=by
 refine ac1 a1 aB aQ ae aa ad fun E xs w ai=>?_;obtain ⟨y,cT,rfl,ao,z,iF,rfl,ax,rfl⟩:=ai;simp only [Rel] at ao ax;subst ao ax;exact ⟨_,Lib.run_indexByteString _ _ _,by simp [Rel]⟩
end
end Go.Proofs.YthemdhlheglhoaaGreatDoor.aY
