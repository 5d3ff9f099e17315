/- The abstract machine and its walks (a verified interpreter of the model's code: plain definitions and lemmas, no condition). Printed by a program from longer texts: names made short. -/
import Derived.Test.YthemdhlheglhoaaGreatDoorM5
set_option linter.unusedSectionVars false
set_option linter.unusedSimpArgs false
set_option linter.unusedVariables false
set_option maxHeartbeats 64000000
noncomputable section
namespace Go.Proofs.YthemdhlheglhoaaGreatDoor.a7
section
open Go Go.RowKit
variable [Lay]
theorem Q8 {α:Type} {h:ai} (enc:α->List D) (ka:α->Nat) (size:Nat):∀(ms:List Nat) (us:List V),us.length=ms.length * size->(∀(i k:Nat),ms[i]? =some k->∃x,cW Any h (enc x) ((us.drop (i * size)).take size)/\((us.drop (i * size)).take size).length=size/\ka x<=k)->
 ∃xs:List α,xs.length=ms.length/\(xs.map ka).sum<=ms.sum/\∃u4:List (List V),us=u4.flatten/\u4.length=xs.length/\(∀u ∈ u4,u.length=size)/\∀(i:Nat) (e:List D) (u:List V),(xs.map enc)[i]? =some e->u4[i]? =some u->cW Any h e u
 | [],us,ay,_=>⟨[],rfl,Nat.le_refl _,[],by simpa using ay,rfl,(fun u q=>(by cases q)),(fun i e u q=>(by simp at q))⟩
 | m::ms,us,ay,aC=>by
   rw [List.length_cons,Nat.succ_mul] at ay;obtain ⟨x,bz,ek,pK⟩:=aC 0 m rfl;rw [Nat.zero_mul,List.drop_zero] at bz ek;obtain ⟨xs,bW,a2,u4,a3,a4,a5,gx⟩:=Q8 enc ka size ms (us.drop size) (by rw [List.length_drop];omega) (fun i k q=>by have:=aC (i+1) k (by simpa using q);rw [show (i+1) * size=size+i * size from by rw [Nat.succ_mul,Nat.add_comm],<-List.drop_drop] at this;exact this);refine ⟨x::xs,by simp [bW],by simp only [List.map_cons,List.sum_cons];omega,us.take size::u4,by rw [List.flatten_cons,<-a3,List.take_append_drop],by simp [a4],fun u q=>?_,fun i e u ar av=>?_⟩
   . rcases List.mem_cons.1 q with rfl | q
     . exact ek
     . exact a5 u q
   . cases i with
     | zero=>
       simp only [List.map_cons,List.getElem?_cons_zero,Option.some.injEq] at ar av;subst ar av;exact bz
     | succ i=>exact gx i e u (by simpa using ar) (by simpa using av)
theorem Vn {α:Type} (enc:α->List D) (ka:α->Nat) {h:ai} {size len m:Nat} {v:V} {Q:Nat->List V->Prop} (H:DQ h size v len m Q) (hm:m<=1048576)
 (aC:∀k ah,k<m->Q k ah->∃x,cW Any h (enc x) ah/\ah.length=size/\ka x<=k):∃xs:List α,xs.length=len/\(xs.map ka).sum+1<=m/\cJ Any h size (xs.map enc) v:=by
 obtain ⟨_,_,_,_,aF,us,ms,bA,bx,c4,dp⟩:=H;have aqg:=Xi fun i k q=>(dp i k q).1;obtain ⟨xs,bW,a2,u4,a3,a4,a5,gx⟩:=Q8 (h:=h) enc ka size ms us (by rw [bx];exact bA.1) (fun i k q=>by have:=Xh q;obtain ⟨x,bz,ek,pK⟩:=aC k _ (by omega) (dp i k q).2;exact ⟨x,bz,ek,pK⟩);refine ⟨xs,by omega,by omega,aF,by rw [List.length_map];unfold top;omega,⟨u4,?_,by rw [a4,List.length_map],a5,gx⟩,fun _ _=>trivial⟩;rw [List.length_map,bW,bx,<-a3];exact bA
end
end Go.Proofs.YthemdhlheglhoaaGreatDoor.a7
