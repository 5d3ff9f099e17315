/- The abstract machine and its walks (a verified interpreter of the model's code: plain definitions and lemmas, no condition). Printed by a program from longer texts: names made short. -/
import Derived.Test.YtefceblncmdkhaaGreatDoorM9
set_option linter.unusedSectionVars false
set_option linter.unusedSimpArgs false
set_option linter.unusedVariables false
set_option maxHeartbeats 64000000
noncomputable section
namespace Go.Proofs.YtefceblncmdkhaaGreatDoor.bd
section
open Go Go.RowKit
variable [Lay]
theorem agK {F:aU->Prop} {h:ah} {size:Nat} (vG:List (List D)) (vv:List (List V)) (ax:vv.length=vG.length) (bG:∀cs ∈ vv,cs.length=size) (fa:∀(i:Nat) (e:List D) (u:List V),vG[i]? =some e->vv[i]? =some u->cj F h e u)
 (pq:F (aC h.next)) (aX:vG.length<=top):∃H,h.new (.a_ vv.flatten 0 false)=H/\Ext h H/\cq F H size vG (.slice (aC h.next) 0 vG.length vG.length):=by
 have kR:=HM vv bG;obtain ⟨H,ag,av,aI⟩:=sT h size vG.length vv.flatten (by rw [kR,ax]) aX;exact ⟨H,ag,av,aI.room,aX,⟨vv,aI.v,ax,bG,fun i e u a b=>(fa i e u a b).ext av⟩,fun b q=>by rw [show b=aC h.next from q];exact pq⟩
theorem agL {F:aU->Prop} {h:ah} {size:Nat} {ds lT:List D} {cs p6:List V} (bG:cs.length=size) (ada:p6.length=size) (H:cj F h ds cs) (k2:cj F h lT p6) (pq:F (aC h.next)):∃g,h.new (.a_ (cs++p6) 0 false)=g/\Ext h g/\cq F g size [ds,lT] (.slice (aC h.next) 0 2 2):=by
 have:=agK (F:=F) (h:=h) (size:=size) [ds,lT] [cs,p6] rfl (fun c q=>by
  rcases ans.1 q with rfl | q
  . exact bG
  . rw [aos] at q;subst q;exact ada) (fun i e u a b=>by
  match i with
  | 0=>simp only [anj,amW] at a b;subst a b;exact H
  | 1=>simp only [anS,anj,amW] at a b;subst a b;exact k2
  | i+2=>simp at a) pq (by show _<=top;unfold top;simp)
 simpa using this
end
end Go.Proofs.YtefceblncmdkhaaGreatDoor.bd
