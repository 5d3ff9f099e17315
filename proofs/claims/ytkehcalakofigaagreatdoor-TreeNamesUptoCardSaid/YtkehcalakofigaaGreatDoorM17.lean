/- The abstract machine and its walks (a verified interpreter of the model's code: plain definitions and lemmas, no condition). Printed by a program from longer texts: names made short. -/
import Derived.Test.YtkehcalakofigaaGreatDoorM5
set_option linter.unusedSectionVars false
set_option linter.unusedSimpArgs false
set_option linter.unusedVariables false
namespace Go.Proofs.YtkehcalakofigaaGreatDoor.aS
variable [Lay]
open Go Go.RowKit
theorem LM {α:Type} {h:af} (enc:α→List D) (jA:α→Nat) (size:Nat):∀(ms:List Nat) (us:List V),us.length=ms.length * size→(∀(i k:Nat),ms[i]? =some k→∃x,bZ Any h (enc x) ((us.drop (i * size)).take size)∧((us.drop (i * size)).take size).length=size∧jA x≤k)→
 ∃xs:List α,xs.length=ms.length∧(xs.map jA).sum≤ms.sum∧∃sq:List (List V),us=sq.flatten∧sq.length=xs.length∧(∀u ∈ sq,u.length=size)∧∀(i:Nat) (e:List D) (u:List V),(xs.map enc)[i]? =some e→sq[i]? =some u→bZ Any h e u
 | [],us,ak,_=>⟨[],rfl,Nat.le_refl _,[],by simpa using ak,rfl,(fun u q=>(by cases q)),(fun i e u q=>(by simp at q))⟩
 | m::ms,us,ak,aF=>by
   rw [List.length_cons,Nat.succ_mul] at ak
   obtain ⟨x,bo,dR,fG⟩:=aF 0 m rfl
   rw [Nat.zero_mul,List.drop_zero] at bo dR
   obtain ⟨xs,bM,a2,sq,a3,a4,a5,iq⟩:=LM enc jA size ms (us.drop size) (by rw [List.length_drop];omega) (fun i k q=>by
    have:=aF (i+1) k (by simpa using q)
    rw [show (i+1) * size=size+i * size from by rw [Nat.succ_mul,Nat.add_comm],←List.drop_drop] at this
    exact this)
   refine ⟨x::xs,by simp [bM],by simp only [List.map_cons,List.sum_cons];omega,us.take size::sq,by rw [List.flatten_cons,←a3,List.take_append_drop],by simp [a4],fun u q=>?_,fun i e u al aq=>?_⟩
   · rcases List.mem_cons.1 q with rfl | q
     · exact dR
     · exact a5 u q
   · cases i with
     | zero=>
       simp only [List.map_cons,List.getElem?_cons_zero,Option.some.injEq] at al aq
       subst al aq
       exact bo
     | succ i=>exact iq i e u (by simpa using al) (by simpa using aq)
theorem agK {α:Type} (enc:α→List D) (jA:α→Nat) {h:af} {size len m:Nat} {v:V} {Q:Nat→List V→Prop} (H:KD h size v len m Q) (hm:m≤1048576)
 (aF:∀k ad,k<m→Q k ad→∃x,bZ Any h (enc x) ad∧ad.length=size∧jA x≤k):∃xs:List α,xs.length=len∧(xs.map jA).sum+1≤m∧bI Any h size (xs.map enc) v:=by
 obtain ⟨_,_,_,_,aJ,us,ms,ck,cJ,gk,gw⟩:=H
 have akM:=RF fun i k q=>(gw i k q).1
 obtain ⟨xs,bM,a2,sq,a3,a4,a5,iq⟩:=LM (h:=h) enc jA size ms us (by rw [cJ];exact ck.1) (fun i k q=>by
  have:=RE q
  obtain ⟨x,bo,dR,fG⟩:=aF k _ (by omega) (gw i k q).2
  exact ⟨x,bo,dR,fG⟩)
 refine ⟨xs,by omega,by omega,aJ,by rw [List.length_map];unfold top;omega,⟨sq,?_,by rw [a4,List.length_map],a5,iq⟩,fun _ _=>trivial⟩
 rw [List.length_map,bM,cJ,←a3]
 exact ck
end Go.Proofs.YtkehcalakofigaaGreatDoor.aS
