/- The abstract machine and its walks (a verified interpreter of the model's code: plain definitions and lemmas, no condition). Printed by a program from longer texts: names made short. -/
import Derived.Test.YthemdhlheglhoaaGreatDoorM5
set_option linter.unusedSectionVars false
set_option linter.unusedSimpArgs false
set_option linter.unusedVariables false
namespace Go.Proofs.YthemdhlheglhoaaGreatDoor.aY
variable [Lay]
open Go Go.RowKit
theorem JX {α:Type} {h:af} (enc:α→List D) (kr:α→Nat) (size:Nat):∀(ms:List Nat) (us:List V),us.length=ms.length * size→(∀(i k:Nat),ms[i]? =some k→∃x,b5 Any h (enc x) ((us.drop (i * size)).take size)∧((us.drop (i * size)).take size).length=size∧kr x≤k)→
 ∃xs:List α,xs.length=ms.length∧(xs.map kr).sum≤ms.sum∧∃sE:List (List V),us=sE.flatten∧sE.length=xs.length∧(∀u ∈ sE,u.length=size)∧∀(i:Nat) (e:List D) (u:List V),(xs.map enc)[i]? =some e→sE[i]? =some u→b5 Any h e u
 | [],us,ao,_=>⟨[],rfl,Nat.le_refl _,[],by simpa using ao,rfl,(fun u q=>(by cases q)),(fun i e u q=>(by simp at q))⟩
 | m::ms,us,ao,av=>by
   rw [List.length_cons,Nat.succ_mul] at ao
   obtain ⟨x,bx,c1,iE⟩:=av 0 m rfl
   rw [Nat.zero_mul,List.drop_zero] at bx c1
   obtain ⟨xs,bE,a2,sE,a3,a4,a5,jl⟩:=JX enc kr size ms (us.drop size) (by rw [List.length_drop];omega) (fun i k q=>by
    have:=av (i+1) k (by simpa using q)
    rw [show (i+1) * size=size+i * size from by rw [Nat.succ_mul,Nat.add_comm],←List.drop_drop] at this
    exact this)
   refine ⟨x::xs,by simp [bE],by simp only [List.map_cons,List.sum_cons];omega,us.take size::sE,by rw [List.flatten_cons,←a3,List.take_append_drop],by simp [a4],fun u q=>?_,fun i e u au az=>?_⟩
   · rcases List.mem_cons.1 q with rfl | q
     · exact c1
     · exact a5 u q
   · cases i with
     | zero=>
       simp only [List.map_cons,List.getElem?_cons_zero,Option.some.injEq] at au az
       subst au az
       exact bx
     | succ i=>exact jl i e u (by simpa using au) (by simpa using az)
theorem acr {α:Type} (enc:α→List D) (kr:α→Nat) {h:af} {size len m:Nat} {v:V} {Q:Nat→List V→Prop} (H:I8 h size v len m Q) (hm:m≤1048576)
 (av:∀k ad,k<m→Q k ad→∃x,b5 Any h (enc x) ad∧ad.length=size∧kr x≤k):∃xs:List α,xs.length=len∧(xs.map kr).sum+1≤m∧eg Any h size (xs.map enc) v:=by
 obtain ⟨_,_,_,_,aG,us,ms,bX,b',gG,g_⟩:=H
 have ago:=PC fun i k q=>(g_ i k q).1
 obtain ⟨xs,bE,a2,sE,a3,a4,a5,jl⟩:=JX (h:=h) enc kr size ms us (by rw [b'];exact bX.1) (fun i k q=>by
  have:=PB q
  obtain ⟨x,bx,c1,iE⟩:=av k _ (by omega) (g_ i k q).2
  exact ⟨x,bx,c1,iE⟩)
 refine ⟨xs,by omega,by omega,aG,by rw [List.length_map];unfold top;omega,⟨sE,?_,by rw [a4,List.length_map],a5,jl⟩,fun _ _=>trivial⟩
 rw [List.length_map,bE,b',←a3]
 exact bX
end Go.Proofs.YthemdhlheglhoaaGreatDoor.aY
