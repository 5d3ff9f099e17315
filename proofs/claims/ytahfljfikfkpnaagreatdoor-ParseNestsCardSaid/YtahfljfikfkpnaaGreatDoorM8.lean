/- The abstract machine and its walks (a verified interpreter of the model's code: plain definitions and lemmas, no condition). Printed by a program from longer texts: names made short. -/
import Derived.Test.YtahfljfikfkpnaaGreatDoorM4
import Derived.Lib.Bytealg
set_option linter.unusedSectionVars false
set_option linter.unusedSimpArgs false
set_option linter.unusedVariables false
set_option maxHeartbeats 64000000
noncomputable section
namespace Go.Proofs.YtahfljfikfkpnaaGreatDoor.bg
section
open Go Go.RowKit
variable [Lay]
theorem aa7 {P:Program} {f:FuncId} (bm:Nat.beq f eA=false) {fn:Func} {e:Array Value->Sem Value} (aE:P.funcs[f]? =some fn) (aF:(fn.name == "runtime.NumGoroutine")=false) (ai:fn.body.isNone=true) (ae:Extern.findNext fn=none) (ag:Extern.find fn=some e)
 {args:List V} {v:V} {h:ah} (he:∀E xs w,bI E args xs->∃x,(e xs.toArray).run P w=.ok x w/\Rel E v x):e' P f args h v h:=by
 refine ⟨fun e=>by subst e;simp at bm,.inr fun aB E w xs au s=>?_⟩;obtain ⟨x,U,b0⟩:=he E xs w au;refine ⟨E,x,w,?_,fun _ _ q=>q,b0,s⟩;simp only [callFunc,Sem.run_bind,run_program,Result.andThen_ok,aE];rw [ao_ (by rw [aF];simp),ape ai];simp only [Sem.run_bind,ae,ag];have hm:(mark (.extern f)).run P w=.ok () w:=rfl;rw [hm];simp only [Result.andThen_ok,U,Sem.run_pure]
theorem aet {P:Program} {f:FuncId} (bm:Nat.beq f eA=false) {fn:Func} (aE:P.funcs[f]? =some fn) (aF:(fn.name == "runtime.NumGoroutine")=false) (ai:fn.body.isNone=true) (ae:Extern.findNext fn=none) (ag:Extern.find fn=some Extern.BytealgIndexByte.indexByte)
 (s:List UInt8) (c:Int) (h:ah):e' P f [.str s,.int .u8 c] h (.int .i64 (Lib.indexByte s c.toNat.toUInt8)) h:=by
 refine aa7 bm aE aF ai ae ag fun E xs w au=>?_;obtain ⟨y,eo,rfl,ao,z,wb,rfl,av,rfl⟩:=au;simp only [Rel] at ao av;subst ao av;exact ⟨_,Lib.run_indexByteString _ _ _,by simp [Rel]⟩
end
end Go.Proofs.YtahfljfikfkpnaaGreatDoor.bg
