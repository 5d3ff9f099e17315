/- The abstract machine and its walks (a verified interpreter of the model's code: plain definitions and lemmas, no condition). Printed by a program from longer texts: names made short. -/
import Derived.Test.YtkehcalakofigaaGreatDoorM5
set_option linter.unusedSectionVars false
set_option linter.unusedSimpArgs false
set_option linter.unusedVariables false
namespace Go.Proofs.YtkehcalakofigaaGreatDoor.aS
variable [Lay]
open Go Go.RowKit
theorem Kt {α:Type} {h:af} (enc:α→List D) (iW:α→Nat) (size:Nat):∀(ms:List Nat) (us:List V),us.length=ms.length * size→(∀(i k:Nat),ms[i]? =some k→∃x,b9 Any h (enc x) ((us.drop (i * size)).take size)∧((us.drop (i * size)).take size).length=size∧iW x≤k)→
 ∃xs:List α,xs.length=ms.length∧(xs.map iW).sum≤ms.sum∧∃rA:List (List V),us=rA.flatten∧rA.length=xs.length∧(∀u ∈ rA,u.length=size)∧∀(i:Nat) (e:List D) (u:List V),(xs.map enc)[i]? =some e→rA[i]? =some u→b9 Any h e u
 | [],us,ai,_=>⟨[],rfl,Nat.le_refl _,[],by simpa using ai,rfl,(fun u q=>(by cases q)),(fun i e u q=>(by simp at q))⟩
 | m::ms,us,ai,aC=>by
   rw [List.length_cons,Nat.succ_mul] at ai
   obtain ⟨x,bm,fu,gz⟩:=aC 0 m rfl
   rw [Nat.zero_mul,List.drop_zero] at bm fu
   obtain ⟨xs,bH,a2,rA,a3,a4,a5,hW⟩:=Kt enc iW size ms (us.drop size) (by rw [List.length_drop];omega) (fun i k q=>by
    have:=aC (i+1) k (by simpa using q)
    rw [show (i+1) * size=size+i * size from by rw [Nat.succ_mul,Nat.add_comm],←List.drop_drop] at this
    exact this)
   refine ⟨x::xs,by simp [bH],by simp only [List.map_cons,List.sum_cons];omega,us.take size::rA,by rw [List.flatten_cons,←a3,List.take_append_drop],by simp [a4],fun u q=>?_,fun i e u aq av=>?_⟩
   · rcases List.mem_cons.1 q with rfl | q
     · exact fu
     · exact a5 u q
   · cases i with
     | zero=>
       simp only [List.map_cons,List.getElem?_cons_zero,Option.some.injEq] at aq av
       subst aq av
       exact bm
     | succ i=>exact hW i e u (by simpa using aq) (by simpa using av)
theorem aep {α:Type} (enc:α→List D) (iW:α→Nat) {h:af} {size len m:Nat} {v:V} {Q:Nat→List V→Prop} (H:Jp h size v len m Q) (hm:m≤1048576)
 (aC:∀k ad,k<m→Q k ad→∃x,b9 Any h (enc x) ad∧ad.length=size∧iW x≤k):∃xs:List α,xs.length=len∧(xs.map iW).sum+1≤m∧ch Any h size (xs.map enc) v:=by
 obtain ⟨_,_,_,_,aH,us,ms,cb,cB,fM,fR⟩:=H
 have aij:=Qj fun i k q=>(fR i k q).1
 obtain ⟨xs,bH,a2,rA,a3,a4,a5,hW⟩:=Kt (h:=h) enc iW size ms us (by rw [cB];exact cb.1) (fun i k q=>by
  have:=Qi q
  obtain ⟨x,bm,fu,gz⟩:=aC k _ (by omega) (fR i k q).2
  exact ⟨x,bm,fu,gz⟩)
 refine ⟨xs,by omega,by omega,aH,by rw [List.length_map];unfold top;omega,⟨rA,?_,by rw [a4,List.length_map],a5,hW⟩,fun _ _=>trivial⟩
 rw [List.length_map,bH,cB,←a3]
 exact cb
end Go.Proofs.YtkehcalakofigaaGreatDoor.aS
