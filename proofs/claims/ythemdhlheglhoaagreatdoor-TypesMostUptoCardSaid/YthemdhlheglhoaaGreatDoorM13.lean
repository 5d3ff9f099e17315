/- The abstract machine and its walks (a verified interpreter of the model's code: plain definitions and lemmas, no condition). Printed by a program from longer texts: names made short. -/
import Derived.Test.YthemdhlheglhoaaGreatDoorM11
set_option linter.unusedSectionVars false
set_option linter.unusedSimpArgs false
set_option linter.unusedVariables false
set_option maxHeartbeats 64000000
noncomputable section
namespace Go.Proofs.YthemdhlheglhoaaGreatDoor.aY
section
open Go Go.RowKit
variable [Lay]
theorem Uc {F:aO->Prop} {h:ah} {size:Nat} (vJ:List (List D)) (vx:List (List V)) (az:vx.length=vJ.length) (bn:∀cs ∈ vx,cs.length=size) (fl:∀(i:Nat) (e:List D) (u:List V),vJ[i]? =some e->vx[i]? =some u->b5 F h e u)
 (iN:F (aj h.next)) (aQ:vJ.length<=top):∃H,h.new (.bx vx.flatten 0 false)=H/\Ext h H/\dj F H size vJ (.slice (aj h.next) 0 vJ.length vJ.length):=by
 have qW:=A8 vx bn;obtain ⟨H,ao,ax,aL⟩:=Ud h size vJ.length vx.flatten (by rw [qW,az]) aQ;exact ⟨H,ao,ax,aL.room,aQ,⟨vx,aL.v,az,bn,fun i e u a b=>(fl i e u a b).ext ax⟩,fun b q=>by rw [show b=aj h.next from q];exact iN⟩
theorem aj2 {F:aO->Prop} {h:ah} {size:Nat} {ds:List D} {cs:List V} (bn:cs.length=size) (H:b5 F h ds cs) (iN:F (aj h.next)):∃g,h.new (.bx cs 0 false)=g/\Ext h g/\dj F g size [ds] (.slice (aj h.next) 0 1 1):=by
 have:=Uc (F:=F) (h:=h) (size:=size) [ds] [cs] rfl (fun c q=>by rw [List.mem_singleton] at q;subst q;exact bn) (fun i e u a b=>by
  cases i with
  | zero=>simp only [List.getElem?_cons_zero,Option.some.injEq] at a b;subst a b;exact H
  | succ i=>simp at a) iN (by show _<=top;unfold top;simp)
 simpa using this
theorem aj3 {F:aO->Prop} {h:ah} {size:Nat} {ds oJ:List D} {cs nL:List V} (bn:cs.length=size) (Fv:nL.length=size) (H:b5 F h ds cs) (ku:b5 F h oJ nL) (iN:F (aj h.next)):∃g,h.new (.bx (cs++nL) 0 false)=g/\Ext h g/\dj F g size [ds,oJ] (.slice (aj h.next) 0 2 2):=by
 have:=Uc (F:=F) (h:=h) (size:=size) [ds,oJ] [cs,nL] rfl (fun c q=>by
  rcases List.mem_cons.1 q with rfl | q
  . exact bn
  . rw [List.mem_singleton] at q;subst q;exact Fv) (fun i e u a b=>by
  match i with
  | 0=>simp only [List.getElem?_cons_zero,Option.some.injEq] at a b;subst a b;exact H
  | 1=>simp only [List.getElem?_cons_succ,List.getElem?_cons_zero,Option.some.injEq] at a b;subst a b;exact ku
  | i+2=>simp at a) iN (by show _<=top;unfold top;simp)
 simpa using this
end
end Go.Proofs.YthemdhlheglhoaaGreatDoor.aY
