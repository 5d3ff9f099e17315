/- The abstract machine and its walks (a verified interpreter of the model's code: plain definitions and lemmas, no condition). Printed by a program from longer texts: names made short. -/
import Derived.Test.YthemdhlheglhoaaGreatDoorM11
set_option linter.unusedSectionVars false
set_option linter.unusedSimpArgs false
set_option linter.unusedVariables false
set_option maxHeartbeats 64000000
noncomputable section
namespace Go.Proofs.YthemdhlheglhoaaGreatDoor.a8
section
open Go Go.RowKit
variable [Lay]
theorem ajQ {F:aQ->Prop} {h:ah} {size:Nat} (vR:List (List D)) (vG:List (List V)) (aA:vG.length=vR.length) (bn:∀cs ∈ vG,cs.length=size) (fy:∀(i:Nat) (e:List D) (u:List V),vR[i]? =some e->vG[i]? =some u->cW F h e u)
 (od:F (aj h.next)) (aV:vR.length<=top):∃H,h.new (.bE vG.flatten 0 false)=H/\Ext h H/\dc F H size vR (.slice (aj h.next) 0 vR.length vR.length):=by
 have jP:=sq vG bn;obtain ⟨H,ar,aw,aK⟩:=Lv h size vR.length vG.flatten (by rw [jP,aA]) aV;exact ⟨H,ar,aw,aK.room,aV,⟨vG,aK.v,aA,bn,fun i e u a b=>(fy i e u a b).ext aw⟩,fun b q=>by rw [show b=aj h.next from q];exact od⟩
theorem ajR {F:aQ->Prop} {h:ah} {size:Nat} {ds:List D} {cs:List V} (bn:cs.length=size) (H:cW F h ds cs) (od:F (aj h.next)):∃g,h.new (.bE cs 0 false)=g/\Ext h g/\dc F g size [ds] (.slice (aj h.next) 0 1 1):=by
 have:=ajQ (F:=F) (h:=h) (size:=size) [ds] [cs] rfl (fun c q=>by rw [List.mem_singleton] at q;subst q;exact bn) (fun i e u a b=>by
  cases i with
  | zero=>simp only [List.getElem?_cons_zero,Option.some.injEq] at a b;subst a b;exact H
  | succ i=>simp at a) od (by show _<=top;unfold top;simp)
 simpa using this
theorem EP {size:Nat}:∀(us:List (List V)) (i:Nat),(∀u ∈ us,u.length=size)->(us.take i).flatten=us.flatten.take (i * size)
 | us,0,_=>by simp
 | [],i+1,_=>by simp
 | u::us,i+1,h=>by rw [List.take_succ_cons,List.flatten_cons,EP us i (fun w q=>h w (by simp [q])),List.flatten_cons,show (i+1) * size=u.length+i * size from by rw [h u (by simp),Nat.succ_mul,Nat.add_comm],List.take_append];rw [List.take_of_length_le (show u.length<=u.length+i * size by omega),Nat.add_sub_cancel_left]
end
end Go.Proofs.YthemdhlheglhoaaGreatDoor.a8
