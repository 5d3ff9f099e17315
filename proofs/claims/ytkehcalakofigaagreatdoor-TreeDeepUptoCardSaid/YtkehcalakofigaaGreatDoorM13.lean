/- The abstract machine and its walks (a verified interpreter of the model's code: plain definitions and lemmas, no condition). Printed by a program from longer texts: names made short. -/
import Derived.Test.YtkehcalakofigaaGreatDoorM9
set_option linter.unusedSectionVars false
set_option linter.unusedSimpArgs false
set_option linter.unusedVariables false
namespace Go.Proofs.YtkehcalakofigaaGreatDoor.aY
variable [Lay]
open Go Go.RowKit
theorem Km {F:aN→Prop} {h:ae} {size:Nat} (qS:List (List D)) (qI:List (List V)) (aj:qI.length=qS.length) (bn:∀cs ∈ qI,cs.length=size) (ew:∀(i:Nat) (e:List D) (u:List V),qS[i]? =some e→qI[i]? =some u→cl F h e u)
 (kb:F (aG h.next)) (a7:qS.length≤top):∃H,h.new (.bk qI.flatten 0 false)=H∧Ext h H∧cM F H size qS (.slice (aG h.next) 0 qS.length qS.length):=by
 have hP:=Cr qI bn
 obtain ⟨H,ai,ay,aK⟩:=oE h size qS.length qI.flatten (by rw [hP,aj]) a7
 exact ⟨H,ai,ay,aK.room,a7,⟨qI,aK.v,aj,bn,fun i e u a b=>(ew i e u a b).ext ay⟩,fun b q=>by rw [show b=aG h.next from q];exact kb⟩
theorem Kn {F:aN→Prop} {h:ae} {size:Nat} {ds:List D} {cs:List V} (bn:cs.length=size) (H:cl F h ds cs) (kb:F (aG h.next)):∃g,h.new (.bk cs 0 false)=g∧Ext h g∧cM F g size [ds] (.slice (aG h.next) 0 1 1):=by
 have:=Km (F:=F) (h:=h) (size:=size) [ds] [cs] rfl (fun c q=>by rw [List.mem_singleton] at q;subst q;exact bn) (fun i e u a b=>by
  cases i with
  | zero=>simp only [List.getElem?_cons_zero,Option.some.injEq] at a b;subst a b;exact H
  | succ i=>simp at a) kb (by show _≤top;unfold top;simp)
 simpa using this
theorem Yu {F:aN→Prop} {h:ae} {size:Nat} {ds kG:List D} {cs l0:List V} (bn:cs.length=size) (VE:l0.length=size) (H:cl F h ds cs) (hY:cl F h kG l0) (kb:F (aG h.next)):∃g,h.new (.bk (cs++l0) 0 false)=g∧Ext h g∧cM F g size [ds,kG] (.slice (aG h.next) 0 2 2):=by
 have:=Km (F:=F) (h:=h) (size:=size) [ds,kG] [cs,l0] rfl (fun c q=>by
  rcases List.mem_cons.1 q with rfl | q
  · exact bn
  · rw [List.mem_singleton] at q;subst q;exact VE) (fun i e u a b=>by
  match i with
  | 0=>simp only [List.getElem?_cons_zero,Option.some.injEq] at a b;subst a b;exact H
  | 1=>simp only [List.getElem?_cons_succ,List.getElem?_cons_zero,Option.some.injEq] at a b;subst a b;exact hY
  | i+2=>simp at a) kb (by show _≤top;unfold top;simp)
 simpa using this
end Go.Proofs.YtkehcalakofigaaGreatDoor.aY
