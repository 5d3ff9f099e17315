/- The abstract machine and its walks (a verified interpreter of the model's code: plain definitions and lemmas, no condition). Printed by a program from longer texts: names made short. -/
import Derived.Test.YthemdhlheglhoaaGreatDoorM4
import Derived.Lib.Bytealg
set_option linter.unusedSectionVars false
set_option linter.unusedSimpArgs false
set_option linter.unusedVariables false
set_option maxHeartbeats 64000000
noncomputable section
namespace Go.Proofs.YthemdhlheglhoaaGreatDoor.a7
section
open Go Go.RowKit
variable [Lay]
theorem adi {P:Program} {f:FuncId} (aZ:Nat.beq f dC=false) {fn:Func} {e:Array Value->Sem Value} (aA:P.funcs[f]? =some fn) (aV:(fn.name == "runtime.NumGoroutine")=false) (ae:fn.body.isNone=true) (aa:Extern.findNext fn=none) (ad:Extern.find fn=some e)
 {args:List V} {v:V} {h:ai} (he:∀E xs w,bk E args xs->∃x,(e xs.toArray).run P w=.ok x w/\Rel E v x):gv P f args h v h:=by
 refine ⟨fun e=>by subst e;simp at aZ,.inr fun az E w xs ak s=>?_⟩;obtain ⟨x,aF,bh⟩:=he E xs w ak;refine ⟨E,x,w,?_,fun _ _ q=>q,bh,s⟩;simp only [callFunc,Sem.run_bind,run_program,Result.andThen_ok,aA];rw [if_neg (by rw [aV];simp),if_pos ae];simp only [Sem.run_bind,aa,ad];have hm:(mark (.extern f)).run P w=.ok () w:=rfl;rw [hm];simp only [Result.andThen_ok,aF,Sem.run_pure]
theorem agU {P:Program} {f:FuncId} (aZ:Nat.beq f dC=false) {fn:Func} (aA:P.funcs[f]? =some fn) (aV:(fn.name == "runtime.NumGoroutine")=false) (ae:fn.body.isNone=true) (aa:Extern.findNext fn=none) (ad:Extern.find fn=some Extern.BytealgIndexByte.indexByte)
 (s:List UInt8) (c:Int) (h:ai):gv P f [.str s,.int .u8 c] h (.int .i64 (Lib.indexByte s c.toNat.toUInt8)) h:=by
 refine adi aZ aA aV ae aa ad fun E xs w ak=>?_;obtain ⟨y,cY,rfl,ar,z,fA,rfl,av,rfl⟩:=ak;simp only [Rel] at ar av;subst ar av;exact ⟨_,Lib.run_indexByteString _ _ _,by simp [Rel]⟩
end
end Go.Proofs.YthemdhlheglhoaaGreatDoor.a7
