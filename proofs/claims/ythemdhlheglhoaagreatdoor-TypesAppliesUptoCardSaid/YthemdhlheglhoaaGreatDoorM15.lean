/- The abstract machine and its walks (a verified interpreter of the model's code: plain definitions and lemmas, no condition). Printed by a program from longer texts: names made short. -/
import Derived.Test.YthemdhlheglhoaaGreatDoorM5
set_option linter.unusedSectionVars false
set_option linter.unusedSimpArgs false
set_option linter.unusedVariables false
namespace Go.Proofs.YthemdhlheglhoaaGreatDoor.a6
variable [Lay]
open Go Go.RowKit
theorem IS {α:Type} {h:af} (enc:α→List D) (ja:α→Nat) (size:Nat):∀(ms:List Nat) (us:List V),us.length=ms.length * size→(∀(i k:Nat),ms[i]? =some k→∃x,bV Any h (enc x) ((us.drop (i * size)).take size)∧((us.drop (i * size)).take size).length=size∧ja x≤k)→
 ∃xs:List α,xs.length=ms.length∧(xs.map ja).sum≤ms.sum∧∃qL:List (List V),us=qL.flatten∧qL.length=xs.length∧(∀u ∈ qL,u.length=size)∧∀(i:Nat) (e:List D) (u:List V),(xs.map enc)[i]? =some e→qL[i]? =some u→bV Any h e u
 | [],us,ai,_=>⟨[],rfl,Nat.le_refl _,[],by simpa using ai,rfl,(fun u q=>(by cases q)),(fun i e u q=>(by simp at q))⟩
 | m::ms,us,ai,az=>by
   rw [List.length_cons,Nat.succ_mul] at ai
   obtain ⟨x,bs,ch,qM⟩:=az 0 m rfl
   rw [Nat.zero_mul,List.drop_zero] at bs ch
   obtain ⟨xs,bJ,a2,qL,a3,a4,a5,h5⟩:=IS enc ja size ms (us.drop size) (by rw [List.length_drop];omega) (fun i k q=>by
    have:=az (i+1) k (by simpa using q)
    rw [show (i+1) * size=size+i * size from by rw [Nat.succ_mul,Nat.add_comm],←List.drop_drop] at this
    exact this)
   refine ⟨x::xs,by simp [bJ],by simp only [List.map_cons,List.sum_cons];omega,us.take size::qL,by rw [List.flatten_cons,←a3,List.take_append_drop],by simp [a4],fun u q=>?_,fun i e u au aC=>?_⟩
   · rcases List.mem_cons.1 q with rfl | q
     · exact ch
     · exact a5 u q
   · cases i with
     | zero=>
       simp only [List.map_cons,List.getElem?_cons_zero,Option.some.injEq] at au aC
       subst au aC
       exact bs
     | succ i=>exact h5 i e u (by simpa using au) (by simpa using aC)
theorem ME {α:Type} (enc:α→List D) (ja:α→Nat) {h:af} {size len m:Nat} {v:V} {Q:Nat→List V→Prop} (H:yh h size v len m Q) (hm:m≤1048576)
 (az:∀k ad,k<m→Q k ad→∃x,bV Any h (enc x) ad∧ad.length=size∧ja x≤k):∃xs:List α,xs.length=len∧(xs.map ja).sum+1≤m∧cZ Any h size (xs.map enc) v:=by
 obtain ⟨_,_,_,_,aG,us,ms,bL,b0,fN,fV⟩:=H
 have age:=On fun i k q=>(fV i k q).1
 obtain ⟨xs,bJ,a2,qL,a3,a4,a5,h5⟩:=IS (h:=h) enc ja size ms us (by rw [b0];exact bL.1) (fun i k q=>by
  have:=Om q
  obtain ⟨x,bs,ch,qM⟩:=az k _ (by omega) (fV i k q).2
  exact ⟨x,bs,ch,qM⟩)
 refine ⟨xs,by omega,by omega,aG,by rw [List.length_map];unfold top;omega,⟨qL,?_,by rw [a4,List.length_map],a5,h5⟩,fun _ _=>trivial⟩
 rw [List.length_map,bJ,b0,←a3]
 exact bL
end Go.Proofs.YthemdhlheglhoaaGreatDoor.a6
