/- The abstract machine and its walks (a verified interpreter of the model's code: plain definitions and lemmas, no condition). Printed by a program from longer texts: names made short. -/
import Derived.Test.YtgmhjhgoamjeeaaGreatDoorM5
import Derived.Lib.Bytealg
set_option linter.unusedSectionVars false
set_option linter.unusedSimpArgs false
set_option linter.unusedVariables false
set_option maxHeartbeats 64000000
noncomputable section
namespace Go.Proofs.YtgmhjhgoamjeeaaGreatDoor.aX
section
open Go Go.RowKit
variable [Lay]
theorem aby {P:Program} {f:FuncId} (a6:Nat.beq f dr=false) {fn:Func} {e:Array Value->Sem Value} (av:P.funcs[f]? =some fn) (aV:(fn.name == "runtime.NumGoroutine")=false) (ah:fn.body.isNone=true) (aa:Extern.findNext fn=none) (ad:Extern.find fn=some e)
 {args:List V} {v:V} {h:ae} (he:∀E xs w,bf E args xs->∃x,(e xs.toArray).run P w=.ok x w/\Rel E v x):eV P f args h v h:=by
 refine ⟨fun e=>by subst e;simp at a6,.inr fun ay E w xs aj s=>?_⟩;obtain ⟨x,aC,bs⟩:=he E xs w aj;refine ⟨E,x,w,?_,fun _ _ q=>q,bs,s⟩;simp only [callFunc,Sem.run_bind,run_program,Result.andThen_ok,av];rw [apw (by rw [aV];simp),apz ah];simp only [Sem.run_bind,aa,ad];have hm:(mark (.extern f)).run P w=.ok () w:=rfl;rw [hm];simp only [Result.andThen_ok,aC,Sem.run_pure]
theorem afr {P:Program} {f:FuncId} (a6:Nat.beq f dr=false) {fn:Func} (av:P.funcs[f]? =some fn) (aV:(fn.name == "runtime.NumGoroutine")=false) (ah:fn.body.isNone=true) (aa:Extern.findNext fn=none) (ad:Extern.find fn=some Extern.BytealgIndexByte.indexByte)
 (s:List UInt8) (c:Int) (h:ae):eV P f [.str s,.int .u8 c] h (.int .i64 (Lib.indexByte s c.toNat.toUInt8)) h:=by
 refine aby a6 av aV ah aa ad fun E xs w aj=>?_;obtain ⟨y,cp,rfl,ak,z,u5,rfl,al,rfl⟩:=aj;simp only [Rel] at ak al;subst ak al;exact ⟨_,Lib.run_indexByteString _ _ _,by simp [Rel]⟩
end
end Go.Proofs.YtgmhjhgoamjeeaaGreatDoor.aX
