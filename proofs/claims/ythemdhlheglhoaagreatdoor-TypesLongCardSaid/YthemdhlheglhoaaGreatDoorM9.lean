/- The abstract machine and its walks (a verified interpreter of the model's code: plain definitions and lemmas, no condition). Printed by a program from longer texts: names made short. -/
import Derived.Test.YthemdhlheglhoaaGreatDoorM4
import Derived.Lib.Bytealg
set_option linter.unusedSectionVars false
set_option linter.unusedSimpArgs false
set_option linter.unusedVariables false
set_option maxHeartbeats 64000000
noncomputable section
namespace Go.Proofs.YthemdhlheglhoaaGreatDoor.a8
section
open Go Go.RowKit
variable [Lay]
theorem acX {P:Program} {f:FuncId} (aZ:Nat.beq f dy=false) {fn:Func} {e:Array Value->Sem Value} (az:P.funcs[f]? =some fn) (aV:(fn.name == "runtime.NumGoroutine")=false) (ae:fn.body.isNone=true) (aa:Extern.findNext fn=none) (ad:Extern.find fn=some e)
 {args:List V} {v:V} {h:ah} (he:∀E xs w,bk E args xs->∃x,(e xs.toArray).run P w=.ok x w/\Rel E v x):gu P f args h v h:=by
 refine ⟨fun e=>by subst e;simp at aZ,.inr fun ay E w xs ak s=>?_⟩;obtain ⟨x,aE,bj⟩:=he E xs w ak;refine ⟨E,x,w,?_,fun _ _ q=>q,bj,s⟩;simp only [callFunc,Sem.run_bind,run_program,Result.andThen_ok,az];rw [if_neg (by rw [aV];simp),if_pos ae];simp only [Sem.run_bind,aa,ad];have hm:(mark (.extern f)).run P w=.ok () w:=rfl;rw [hm];simp only [Result.andThen_ok,aE,Sem.run_pure]
theorem agD {P:Program} {f:FuncId} (aZ:Nat.beq f dy=false) {fn:Func} (az:P.funcs[f]? =some fn) (aV:(fn.name == "runtime.NumGoroutine")=false) (ae:fn.body.isNone=true) (aa:Extern.findNext fn=none) (ad:Extern.find fn=some Extern.BytealgIndexByte.indexByte)
 (s:List UInt8) (c:Int) (h:ah):gu P f [.str s,.int .u8 c] h (.int .i64 (Lib.indexByte s c.toNat.toUInt8)) h:=by
 refine acX aZ az aV ae aa ad fun E xs w ak=>?_;obtain ⟨y,cV,rfl,ar,z,fv,rfl,aw,rfl⟩:=ak;simp only [Rel] at ar aw;subst ar aw;exact ⟨_,Lib.run_indexByteString _ _ _,by simp [Rel]⟩
end
end Go.Proofs.YthemdhlheglhoaaGreatDoor.a8
