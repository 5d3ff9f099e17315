/- The abstract machine and its walks (a verified interpreter of the model's code: plain definitions and lemmas, no condition). Printed by a program from longer texts: names made short. -/
import Derived.Test.YtahfljfikfkpnaaGreatDoorM4
import Derived.Lib.Bytealg
set_option linter.unusedSectionVars false
set_option linter.unusedSimpArgs false
set_option linter.unusedVariables false
set_option maxHeartbeats 64000000
noncomputable section
namespace Go.Proofs.YtahfljfikfkpnaaGreatDoor.ba
section
open Go Go.RowKit
variable [Lay]
theorem aaU {P:Program} {f:FuncId} (bl:Nat.beq f eA=false) {fn:Func} {e:Array Value->Sem Value} (aE:P.funcs[f]? =some fn) (aI:(fn.name == "runtime.NumGoroutine")=false) (ai:fn.body.isNone=true) (ad:Extern.findNext fn=none) (ag:Extern.find fn=some e)
 {args:List V} {v:V} {h:ah} (he:∀E xs w,bH E args xs->∃x,(e xs.toArray).run P w=.ok x w/\Rel E v x):e5 P f args h v h:=by
 refine ⟨fun e=>by subst e;simp at bl,.inr fun aA E w xs au s=>?_⟩;obtain ⟨x,U,bZ⟩:=he E xs w au;refine ⟨E,x,w,?_,fun _ _ q=>q,bZ,s⟩;simp only [callFunc,Sem.run_bind,run_program,Result.andThen_ok,aE];rw [aoI (by rw [aI];simp),aoN ai];simp only [Sem.run_bind,ad,ag];have hm:(mark (.extern f)).run P w=.ok () w:=rfl;rw [hm];simp only [Result.andThen_ok,U,Sem.run_pure]
theorem aeh {P:Program} {f:FuncId} (bl:Nat.beq f eA=false) {fn:Func} (aE:P.funcs[f]? =some fn) (aI:(fn.name == "runtime.NumGoroutine")=false) (ai:fn.body.isNone=true) (ad:Extern.findNext fn=none) (ag:Extern.find fn=some Extern.BytealgIndexByte.indexByte)
 (s:List UInt8) (c:Int) (h:ah):e5 P f [.str s,.int .u8 c] h (.int .i64 (Lib.indexByte s c.toNat.toUInt8)) h:=by
 refine aaU bl aE aI ai ad ag fun E xs w au=>?_;obtain ⟨y,en,rfl,an,z,vZ,rfl,av,rfl⟩:=au;simp only [Rel] at an av;subst an av;exact ⟨_,Lib.run_indexByteString _ _ _,by simp [Rel]⟩
end
end Go.Proofs.YtahfljfikfkpnaaGreatDoor.ba
