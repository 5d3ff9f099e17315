/- The abstract machine and its walks (a verified interpreter of the model's code: plain definitions and lemmas, no condition). Printed by a program from longer texts: names made short. -/
import Derived.Test.YthemdhlheglhoaaGreatDoorM11
set_option linter.unusedSectionVars false
set_option linter.unusedSimpArgs false
set_option linter.unusedVariables false
namespace Go.Proofs.YthemdhlheglhoaaGreatDoor.aX
variable [Lay]
open Go Go.RowKit
theorem Qg {F:aP→Prop} {h:af} {size:Nat} (tK:List (List D)) (tB:List (List V)) (ai:tB.length=tK.length) (bo:∀cs ∈ tB,cs.length=size) (gd:∀(i:Nat) (e:List D) (u:List V),tK[i]? =some e→tB[i]? =some u→bJ F h e u)
 (gS:F (al h.next)) (aU:tK.length≤top):∃H,h.new (.a1 tB.flatten 0 false)=H∧Ext h H∧cw F H size tK (.slice (al h.next) 0 tK.length tK.length):=by
 have np:=yU tB bo
 obtain ⟨H,an,az,aN⟩:=IP h size tK.length tB.flatten (by rw [np,ai]) aU
 exact ⟨H,an,az,aN.room,aU,⟨tB,aN.v,ai,bo,fun i e u a b=>(gd i e u a b).ext az⟩,fun b q=>by rw [show b=al h.next from q];exact gS⟩
theorem IN {F:aP→Prop} {h:af} {size:Nat} {ds:List D} {cs:List V} (bo:cs.length=size) (H:bJ F h ds cs) (gS:F (al h.next)):∃g,h.new (.a1 cs 0 false)=g∧Ext h g∧cw F g size [ds] (.slice (al h.next) 0 1 1):=by
 have:=Qg (F:=F) (h:=h) (size:=size) [ds] [cs] rfl (fun c q=>by rw [List.mem_singleton] at q;subst q;exact bo) (fun i e u a b=>by
  cases i with
  | zero=>simp only [List.getElem?_cons_zero,Option.some.injEq] at a b;subst a b;exact H
  | succ i=>simp at a) gS (by show _≤top;unfold top;simp)
 simpa using this
theorem zV {F:aP→Prop} {h:af} {size:Nat} {ds oa:List D} {cs kZ:List V} (bo:cs.length=size) (ad0:kZ.length=size) (H:bJ F h ds cs) (jt:bJ F h oa kZ) (gS:F (al h.next)):∃g,h.new (.a1 (cs++kZ) 0 false)=g∧Ext h g∧cw F g size [ds,oa] (.slice (al h.next) 0 2 2):=by
 have:=Qg (F:=F) (h:=h) (size:=size) [ds,oa] [cs,kZ] rfl (fun c q=>by
  rcases List.mem_cons.1 q with rfl | q
  · exact bo
  · rw [List.mem_singleton] at q;subst q;exact ad0) (fun i e u a b=>by
  match i with
  | 0=>simp only [List.getElem?_cons_zero,Option.some.injEq] at a b;subst a b;exact H
  | 1=>simp only [List.getElem?_cons_succ,List.getElem?_cons_zero,Option.some.injEq] at a b;subst a b;exact jt
  | i+2=>simp at a) gS (by show _≤top;unfold top;simp)
 simpa using this
theorem NM {size:Nat}:∀(us:List (List V)) (i:Nat),(∀u ∈ us,u.length=size)→(us.drop i).flatten=us.flatten.drop (i * size)
 | us,0,_=>by simp
 | [],i+1,_=>by simp
 | u::us,i+1,h=>by
   rw [List.drop_succ_cons,NM us i (fun w q=>h w (by simp [q])),List.flatten_cons,show (i+1) * size=u.length+i * size from by rw [h u (by simp),Nat.succ_mul,Nat.add_comm],←List.drop_drop,List.drop_left]
theorem NO {size:Nat}:∀(us:List (List V)) (i:Nat),(∀u ∈ us,u.length=size)→(us.take i).flatten=us.flatten.take (i * size)
 | us,0,_=>by simp
 | [],i+1,_=>by simp
 | u::us,i+1,h=>by
   rw [List.take_succ_cons,List.flatten_cons,NO us i (fun w q=>h w (by simp [q])),List.flatten_cons,show (i+1) * size=u.length+i * size from by rw [h u (by simp),Nat.succ_mul,Nat.add_comm],List.take_append]
   rw [List.take_of_length_le (show u.length≤u.length+i * size by omega),Nat.add_sub_cancel_left]
end Go.Proofs.YthemdhlheglhoaaGreatDoor.aX
