/- The abstract machine and its walks (a verified interpreter of the model's code: plain definitions and lemmas, no condition). Printed by a program from longer texts: names made short. -/
import Derived.Test.YtkehcalakofigaaGreatDoorM7
set_option linter.unusedSectionVars false
set_option linter.unusedSimpArgs false
set_option linter.unusedVariables false
namespace Go.Proofs.YtkehcalakofigaaGreatDoor.aS
variable [Lay]
open Go Go.RowKit
theorem O' {F:aQ→Prop} {h:af} {size:Nat} (s3:List (List D)) (sR:List (List V)) (ak:sR.length=s3.length) (bj:∀cs ∈ sR,cs.length=size) (eY:∀(i:Nat) (e:List D) (u:List V),s3[i]? =some e→sR[i]? =some u→bZ F h e u)
 (ka:F (aC h.next)) (aX:s3.length≤top):∃H,h.new (.bh sR.flatten 0 false)=H∧Ext h H∧bI F H size s3 (.slice (aC h.next) 0 s3.length s3.length):=by
 have hf:=Bk sR bj
 obtain ⟨H,al,aq,aK⟩:=ns h size s3.length sR.flatten (by rw [hf,ak]) aX
 exact ⟨H,al,aq,aK.room,aX,⟨sR,aK.v,ak,bj,fun i e u a b=>(eY i e u a b).ext aq⟩,fun b q=>by rw [show b=aC h.next from q];exact ka⟩
theorem O_ {F:aQ→Prop} {h:af} {size:Nat} {ds:List D} {cs:List V} (bj:cs.length=size) (H:bZ F h ds cs) (ka:F (aC h.next)):∃g,h.new (.bh cs 0 false)=g∧Ext h g∧bI F g size [ds] (.slice (aC h.next) 0 1 1):=by
 have:=O' (F:=F) (h:=h) (size:=size) [ds] [cs] rfl (fun c q=>by rw [List.mem_singleton] at q;subst q;exact bj) (fun i e u a b=>by
  cases i with
  | zero=>simp only [List.getElem?_cons_zero,Option.some.injEq] at a b;subst a b;exact H
  | succ i=>simp at a) ka (by show _≤top;unfold top;simp)
 simpa using this
theorem afo {F:aQ→Prop} {h:af} {size:Nat} {ds mc:List D} {cs nN:List V} (bj:cs.length=size) (acw:nN.length=size) (H:bZ F h ds cs) (iY:bZ F h mc nN) (ka:F (aC h.next)):∃g,h.new (.bh (cs++nN) 0 false)=g∧Ext h g∧bI F g size [ds,mc] (.slice (aC h.next) 0 2 2):=by
 have:=O' (F:=F) (h:=h) (size:=size) [ds,mc] [cs,nN] rfl (fun c q=>by
  rcases List.mem_cons.1 q with rfl | q
  · exact bj
  · rw [List.mem_singleton] at q;subst q;exact acw) (fun i e u a b=>by
  match i with
  | 0=>simp only [List.getElem?_cons_zero,Option.some.injEq] at a b;subst a b;exact H
  | 1=>simp only [List.getElem?_cons_succ,List.getElem?_cons_zero,Option.some.injEq] at a b;subst a b;exact iY
  | i+2=>simp at a) ka (by show _≤top;unfold top;simp)
 simpa using this
end Go.Proofs.YtkehcalakofigaaGreatDoor.aS
