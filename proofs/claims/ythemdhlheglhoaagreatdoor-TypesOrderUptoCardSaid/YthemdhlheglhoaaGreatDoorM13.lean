/- The abstract machine and its walks (a verified interpreter of the model's code: plain definitions and lemmas, no condition). Printed by a program from longer texts: names made short. -/
import Derived.Test.YthemdhlheglhoaaGreatDoorM11
set_option linter.unusedSectionVars false
set_option linter.unusedSimpArgs false
set_option linter.unusedVariables false
namespace Go.Proofs.YthemdhlheglhoaaGreatDoor.aY
variable [Lay]
open Go Go.RowKit
theorem M0 {F:aN→Prop} {h:af} {size:Nat} (tl:List (List D)) (s_:List (List V)) (ao:s_.length=tl.length) (bs:∀cs ∈ s_,cs.length=size) (gu:∀(i:Nat) (e:List D) (u:List V),tl[i]? =some e→s_[i]? =some u→b5 F h e u)
 (jS:F (ai h.next)) (aS:tl.length≤top):∃H,h.new (.bg s_.flatten 0 false)=H∧Ext h H∧eg F H size tl (.slice (ai h.next) 0 tl.length tl.length):=by
 have pL:=AB s_ bs
 obtain ⟨H,au,az,aM⟩:=abd h size tl.length s_.flatten (by rw [pL,ao]) aS
 exact ⟨H,au,az,aM.room,aS,⟨s_,aM.v,ao,bs,fun i e u a b=>(gu i e u a b).ext az⟩,fun b q=>by rw [show b=ai h.next from q];exact jS⟩
theorem wk {F:aN→Prop} {h:af} {size:Nat} {ds:List D} {cs:List V} (bs:cs.length=size) (H:b5 F h ds cs) (jS:F (ai h.next)):∃g,h.new (.bg cs 0 false)=g∧Ext h g∧eg F g size [ds] (.slice (ai h.next) 0 1 1):=by
 have:=M0 (F:=F) (h:=h) (size:=size) [ds] [cs] rfl (fun c q=>by rw [List.mem_singleton] at q;subst q;exact bs) (fun i e u a b=>by
  cases i with
  | zero=>simp only [List.getElem?_cons_zero,Option.some.injEq] at a b;subst a b;exact H
  | succ i=>simp at a) jS (by show _≤top;unfold top;simp)
 simpa using this
end Go.Proofs.YthemdhlheglhoaaGreatDoor.aY
