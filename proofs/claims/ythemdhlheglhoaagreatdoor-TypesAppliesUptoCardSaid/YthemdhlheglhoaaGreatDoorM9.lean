/- The abstract machine and its walks (a verified interpreter of the model's code: plain definitions and lemmas, no condition). Printed by a program from longer texts: names made short. -/
import Derived.Test.YthemdhlheglhoaaGreatDoorM5
import Derived.Lib.Bytealg
set_option linter.unusedSectionVars false
set_option linter.unusedSimpArgs false
set_option linter.unusedVariables false
namespace Go.Proofs.YthemdhlheglhoaaGreatDoor.a6
variable [Lay]
open Go Go.RowKit
theorem U_ {P:Program} {f:FuncId} (aZ:Nat.beq f c4=false) {fn:Func} {e:Array Value→Sem Value} (av:P.funcs[f]? =some fn) (aV:(fn.name == "runtime.NumGoroutine")=false) (ah:fn.body.isNone=true) (aa:Extern.findNext fn=none) (ae:Extern.find fn=some e)
 {args:List V} {v:V} {h:af} (he:∀E xs w,a7 E args xs→∃x,(e xs.toArray).run P w=.ok x w∧Rel E v x):e7 P f args h v h:=by
 refine ⟨fun e=>by subst e;simp at aZ,.inr fun ar E w xs al s=>?_⟩
 obtain ⟨x,aG,bn⟩:=he E xs w al
 refine ⟨E,x,w,?_,fun _ _ q=>q,bn,s⟩
 simp only [callFunc,Sem.run_bind,run_program,Result.andThen_ok,av]
 rw [if_neg (by rw [aV];simp),if_pos ah]
 simp only [Sem.run_bind,aa,ae]
 have hm:(mark (.extern f)).run P w=.ok () w:=rfl
 rw [hm]
 simp only [Result.andThen_ok,aG,Sem.run_pure]
theorem Yy {P:Program} {f:FuncId} (aZ:Nat.beq f c4=false) {fn:Func} (av:P.funcs[f]? =some fn) (aV:(fn.name == "runtime.NumGoroutine")=false) (ah:fn.body.isNone=true) (aa:Extern.findNext fn=none) (ae:Extern.find fn=some Extern.BytealgIndexByte.indexByte)
 (s:List UInt8) (c:Int) (h:af):e7 P f [.str s,.int .u8 c] h (.int .i64 (Lib.indexByte s c.toNat.toUInt8)) h:=by
 refine U_ aZ av aV ah aa ae fun E xs w al=>?_
 obtain ⟨y,cu,rfl,au,z,h2,rfl,aC,rfl⟩:=al
 simp only [Rel] at au aC
 subst au aC
 exact ⟨_,Lib.run_indexByteString _ _ _,by simp [Rel]⟩
end Go.Proofs.YthemdhlheglhoaaGreatDoor.a6
