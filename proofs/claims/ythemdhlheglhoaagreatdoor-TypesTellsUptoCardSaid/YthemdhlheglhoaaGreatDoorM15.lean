/- The abstract machine and its walks (a verified interpreter of the model's code: plain definitions and lemmas, no condition). Printed by a program from longer texts: names made short. -/
import Derived.Test.YthemdhlheglhoaaGreatDoorM5
set_option linter.unusedSectionVars false
set_option linter.unusedSimpArgs false
set_option linter.unusedVariables false
namespace Go.Proofs.YthemdhlheglhoaaGreatDoor.aX
variable [Lay]
open Go Go.RowKit
theorem MO {α:Type} {h:af} (enc:α→List D) (jX:α→Nat) (size:Nat):∀(ms:List Nat) (us:List V),us.length=ms.length * size→(∀(i k:Nat),ms[i]? =some k→∃x,bJ Any h (enc x) ((us.drop (i * size)).take size)∧((us.drop (i * size)).take size).length=size∧jX x≤k)→
 ∃xs:List α,xs.length=ms.length∧(xs.map jX).sum≤ms.sum∧∃sT:List (List V),us=sT.flatten∧sT.length=xs.length∧(∀u ∈ sT,u.length=size)∧∀(i:Nat) (e:List D) (u:List V),(xs.map enc)[i]? =some e→sT[i]? =some u→bJ Any h e u
 | [],us,ai,_=>⟨[],rfl,Nat.le_refl _,[],by simpa using ai,rfl,(fun u q=>(by cases q)),(fun i e u q=>(by simp at q))⟩
 | m::ms,us,ai,aA=>by
   rw [List.length_cons,Nat.succ_mul] at ai
   obtain ⟨x,bj,ct,gr⟩:=aA 0 m rfl
   rw [Nat.zero_mul,List.drop_zero] at bj ct
   obtain ⟨xs,bH,a2,sT,a3,a4,a5,iL⟩:=MO enc jX size ms (us.drop size) (by rw [List.length_drop];omega) (fun i k q=>by
    have:=aA (i+1) k (by simpa using q)
    rw [show (i+1) * size=size+i * size from by rw [Nat.succ_mul,Nat.add_comm],←List.drop_drop] at this
    exact this)
   refine ⟨x::xs,by simp [bH],by simp only [List.map_cons,List.sum_cons];omega,us.take size::sT,by rw [List.flatten_cons,←a3,List.take_append_drop],by simp [a4],fun u q=>?_,fun i e u an az=>?_⟩
   · rcases List.mem_cons.1 q with rfl | q
     · exact ct
     · exact a5 u q
   · cases i with
     | zero=>
       simp only [List.map_cons,List.getElem?_cons_zero,Option.some.injEq] at an az
       subst an az
       exact bj
     | succ i=>exact iL i e u (by simpa using an) (by simpa using az)
theorem ah2 {α:Type} (enc:α→List D) (jX:α→Nat) {h:af} {size len m:Nat} {v:V} {Q:Nat→List V→Prop} (H:Lr h size v len m Q) (hm:m≤1048576)
 (aA:∀k ad,k<m→Q k ad→∃x,bJ Any h (enc x) ad∧ad.length=size∧jX x≤k):∃xs:List α,xs.length=len∧(xs.map jX).sum+1≤m∧cw Any h size (xs.map enc) v:=by
 obtain ⟨_,_,_,_,aJ,us,ms,bz,bZ,fu,gI⟩:=H
 have amf:=SO fun i k q=>(gI i k q).1
 obtain ⟨xs,bH,a2,sT,a3,a4,a5,iL⟩:=MO (h:=h) enc jX size ms us (by rw [bZ];exact bz.1) (fun i k q=>by
  have:=SN q
  obtain ⟨x,bj,ct,gr⟩:=aA k _ (by omega) (gI i k q).2
  exact ⟨x,bj,ct,gr⟩)
 refine ⟨xs,by omega,by omega,aJ,by rw [List.length_map];unfold top;omega,⟨sT,?_,by rw [a4,List.length_map],a5,iL⟩,fun _ _=>trivial⟩
 rw [List.length_map,bH,bZ,←a3]
 exact bz
end Go.Proofs.YthemdhlheglhoaaGreatDoor.aX
