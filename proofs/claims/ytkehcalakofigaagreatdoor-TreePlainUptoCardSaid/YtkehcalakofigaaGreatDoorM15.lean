/- The abstract machine and its walks (a verified interpreter of the model's code: plain definitions and lemmas, no condition). Printed by a program from longer texts: names made short. -/
import Derived.Test.YtkehcalakofigaaGreatDoorM7
set_option linter.unusedSectionVars false
set_option linter.unusedSimpArgs false
set_option linter.unusedVariables false
namespace Go.Proofs.YtkehcalakofigaaGreatDoor.aS
variable [Lay]
open Go Go.RowKit
theorem ac8 {F:aO→Prop} {h:af} {size:Nat} (sa:List (List D)) (r3:List (List V)) (ai:r3.length=sa.length) (bh:∀cs ∈ r3,cs.length=size) (fo:∀(i:Nat) (e:List D) (u:List V),sa[i]? =some e→r3[i]? =some u→b9 F h e u)
 (kV:F (ay h.next)) (aZ:sa.length≤top):∃H,h.new (.bq r3.flatten 0 false)=H∧Ext h H∧ch F H size sa (.slice (ay h.next) 0 sa.length sa.length):=by
 have ha:=EX r3 bh
 obtain ⟨H,aq,av,aK⟩:=GZ h size sa.length r3.flatten (by rw [ha,ai]) aZ
 exact ⟨H,aq,av,aK.room,aZ,⟨r3,aK.v,ai,bh,fun i e u a b=>(fo i e u a b).ext av⟩,fun b q=>by rw [show b=ay h.next from q];exact kV⟩
theorem GY {F:aO→Prop} {h:af} {size:Nat} {ds:List D} {cs:List V} (bh:cs.length=size) (H:b9 F h ds cs) (kV:F (ay h.next)):∃g,h.new (.bq cs 0 false)=g∧Ext h g∧ch F g size [ds] (.slice (ay h.next) 0 1 1):=by
 have:=ac8 (F:=F) (h:=h) (size:=size) [ds] [cs] rfl (fun c q=>by rw [List.mem_singleton] at q;subst q;exact bh) (fun i e u a b=>by
  cases i with
  | zero=>simp only [List.getElem?_cons_zero,Option.some.injEq] at a b;subst a b;exact H
  | succ i=>simp at a) kV (by show _≤top;unfold top;simp)
 simpa using this
end Go.Proofs.YtkehcalakofigaaGreatDoor.aS
