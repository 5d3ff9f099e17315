/- The abstract machine and its walks (a verified interpreter of the model's code: plain definitions and lemmas, no condition). Printed by a program from longer texts: names made short. -/
import Derived.Test.YtkehcalakofigaaGreatDoorM5
set_option linter.unusedSectionVars false
set_option linter.unusedSimpArgs false
set_option linter.unusedVariables false
namespace Go.Proofs.YtkehcalakofigaaGreatDoor.a1
variable [Lay]
open Go Go.RowKit
theorem Hu {α:Type} {h:ae} (enc:α→List D) (iu:α→Nat) (size:Nat):∀(ms:List Nat) (us:List V),us.length=ms.length * size→(∀(i k:Nat),ms[i]? =some k→∃x,ct Any h (enc x) ((us.drop (i * size)).take size)∧((us.drop (i * size)).take size).length=size∧iu x≤k)→
 ∃xs:List α,xs.length=ms.length∧(xs.map iu).sum≤ms.sum∧∃qm:List (List V),us=qm.flatten∧qm.length=xs.length∧(∀u ∈ qm,u.length=size)∧∀(i:Nat) (e:List D) (u:List V),(xs.map enc)[i]? =some e→qm[i]? =some u→ct Any h e u
 | [],us,ai,_=>⟨[],rfl,Nat.le_refl _,[],by simpa using ai,rfl,(fun u q=>(by cases q)),(fun i e u q=>(by simp at q))⟩
 | m::ms,us,ai,aF=>by
   rw [List.length_cons,Nat.succ_mul] at ai
   obtain ⟨x,bu,dE,kD⟩:=aF 0 m rfl
   rw [Nat.zero_mul,List.drop_zero] at bu dE
   obtain ⟨xs,bK,a2,qm,a3,a4,a5,hB⟩:=Hu enc iu size ms (us.drop size) (by rw [List.length_drop];omega) (fun i k q=>by
    have:=aF (i+1) k (by simpa using q)
    rw [show (i+1) * size=size+i * size from by rw [Nat.succ_mul,Nat.add_comm],←List.drop_drop] at this
    exact this)
   refine ⟨x::xs,by simp [bK],by simp only [List.map_cons,List.sum_cons];omega,us.take size::qm,by rw [List.flatten_cons,←a3,List.take_append_drop],by simp [a4],fun u q=>?_,fun i e u aj ay=>?_⟩
   · rcases List.mem_cons.1 q with rfl | q
     · exact dE
     · exact a5 u q
   · cases i with
     | zero=>
       simp only [List.map_cons,List.getElem?_cons_zero,Option.some.injEq] at aj ay
       subst aj ay
       exact bu
     | succ i=>exact hB i e u (by simpa using aj) (by simpa using ay)
theorem Lf {α:Type} (enc:α→List D) (iu:α→Nat) {h:ae} {size len m:Nat} {v:V} {Q:Nat→List V→Prop} (H:xp h size v len m Q) (hm:m≤1048576)
 (aF:∀k ab,k<m→Q k ab→∃x,ct Any h (enc x) ab∧ab.length=size∧iu x≤k):∃xs:List α,xs.length=len∧(xs.map iu).sum+1≤m∧cF Any h size (xs.map enc) v:=by
 obtain ⟨_,_,_,_,aG,us,ms,b_,cA,fv,fD⟩:=H
 have ad0:=MH fun i k q=>(fD i k q).1
 obtain ⟨xs,bK,a2,qm,a3,a4,a5,hB⟩:=Hu (h:=h) enc iu size ms us (by rw [cA];exact b_.1) (fun i k q=>by
  have:=MG q
  obtain ⟨x,bu,dE,kD⟩:=aF k _ (by omega) (fD i k q).2
  exact ⟨x,bu,dE,kD⟩)
 refine ⟨xs,by omega,by omega,aG,by rw [List.length_map];unfold top;omega,⟨qm,?_,by rw [a4,List.length_map],a5,hB⟩,fun _ _=>trivial⟩
 rw [List.length_map,bK,cA,←a3]
 exact b_
end Go.Proofs.YtkehcalakofigaaGreatDoor.a1
