/- The abstract machine and its walks (a verified interpreter of the model's code: plain definitions and lemmas, no condition). Printed by a program from longer texts: names made short. -/
import Derived.Test.YtahfljfikfkpnaaGreatDoorM5
import Derived.Lib.Bytealg
set_option linter.unusedSectionVars false
set_option linter.unusedSimpArgs false
set_option linter.unusedVariables false
set_option maxHeartbeats 64000000
noncomputable section
namespace Go.Proofs.YtahfljfikfkpnaaGreatDoor.bf
section
open Go Go.RowKit
variable [Lay]
theorem acZ {P:Program} {f:FuncId} (bg:Nat.beq f dx=false) {fn:Func} {e:Array Value->Sem Value} (aA:P.funcs[f]? =some fn) (aL:(fn.name == "runtime.NumGoroutine")=false) (ah:fn.body.isNone=true) (U:Extern.findNext fn=none) (ad:Extern.find fn=some e)
 {args:List V} {v:V} {h:ae} (he:∀E xs w,bm E args xs->∃x,(e xs.toArray).run P w=.ok x w/\Rel E v x):gm P f args h v h:=by
 refine ⟨fun e=>by subst e;simp at bg,.inr fun al E w xs ay s=>?_⟩;obtain ⟨x,aa,bE⟩:=he E xs w ay;refine ⟨E,x,w,?_,fun _ _ q=>q,bE,s⟩;simp only [callFunc,Sem.run_bind,run_program,Result.andThen_ok,aA];rw [aqr (by rw [aL];simp),aqw ah];simp only [Sem.run_bind,U,ad];have hm:(mark (.extern f)).run P w=.ok () w:=rfl;rw [hm];simp only [Result.andThen_ok,aa,Sem.run_pure]
theorem agl {P:Program} {f:FuncId} (bg:Nat.beq f dx=false) {fn:Func} (aA:P.funcs[f]? =some fn) (aL:(fn.name == "runtime.NumGoroutine")=false) (ah:fn.body.isNone=true) (U:Extern.findNext fn=none) (ad:Extern.find fn=some Extern.BytealgIndexByte.indexByte)
 (s:List UInt8) (c:Int) (h:ae):gm P f [.str s,.int .u8 c] h (.int .i64 (Lib.indexByte s c.toNat.toUInt8)) h:=by
 refine acZ bg aA aL ah U ad fun E xs w ay=>?_;obtain ⟨y,de,rfl,an,z,rC,rfl,av,rfl⟩:=ay;simp only [Rel] at an av;subst an av;exact ⟨_,Lib.run_indexByteString _ _ _,by simp [Rel]⟩
end
end Go.Proofs.YtahfljfikfkpnaaGreatDoor.bf
