/- The abstract machine and its walks (a verified interpreter of the model's code: plain definitions and lemmas, no condition). Printed by a program from longer texts: names made short. -/
import Derived.Test.YthemdhlheglhoaaGreatDoorM4
set_option linter.unusedSectionVars false
set_option linter.unusedSimpArgs false
set_option linter.unusedVariables false
set_option maxHeartbeats 64000000
noncomputable section
namespace Go.Proofs.YthemdhlheglhoaaGreatDoor.aY
section
open Go Go.RowKit
variable [Lay]
theorem QH {α:Type} {h:ah} (enc:α->List D) (ks:α->Nat) (size:Nat):∀(ms:List Nat) (us:List V),us.length=ms.length * size->(∀(i k:Nat),ms[i]? =some k->∃x,b5 Any h (enc x) ((us.drop (i * size)).take size)/\((us.drop (i * size)).take size).length=size/\ks x<=k)->
 ∃xs:List α,xs.length=ms.length/\(xs.map ks).sum<=ms.sum/\∃uV:List (List V),us=uV.flatten/\uV.length=xs.length/\(∀u ∈ uV,u.length=size)/\∀(i:Nat) (e:List D) (u:List V),(xs.map enc)[i]? =some e->uV[i]? =some u->b5 Any h e u
 | [],us,az,_=>⟨[],rfl,Nat.le_refl _,[],by simpa using az,rfl,(fun u q=>(by cases q)),(fun i e u q=>(by simp at q))⟩
 | m::ms,us,az,aA=>by
   rw [List.length_cons,Nat.succ_mul] at az;obtain ⟨x,bq,dx,nr⟩:=aA 0 m rfl;rw [Nat.zero_mul,List.drop_zero] at bq dx;obtain ⟨xs,bN,a2,uV,a3,a4,a5,hN⟩:=QH enc ks size ms (us.drop size) (by rw [List.length_drop];omega) (fun i k q=>by have:=aA (i+1) k (by simpa using q);rw [show (i+1) * size=size+i * size from by rw [Nat.succ_mul,Nat.add_comm],<-List.drop_drop] at this;exact this);refine ⟨x::xs,by simp [bN],by simp only [List.map_cons,List.sum_cons];omega,us.take size::uV,by rw [List.flatten_cons,<-a3,List.take_append_drop],by simp [a4],fun u q=>?_,fun i e u ao ax=>?_⟩
   . rcases List.mem_cons.1 q with rfl | q
     . exact dx
     . exact a5 u q
   . cases i with
     | zero=>
       simp only [List.map_cons,List.getElem?_cons_zero,Option.some.injEq] at ao ax;subst ao ax;exact bq
     | succ i=>exact hN i e u (by simpa using ao) (by simpa using ax)
theorem U8 {α:Type} (enc:α->List D) (ks:α->Nat) {h:ah} {size len m:Nat} {v:V} {Q:Nat->List V->Prop} (H:Dw h size v len m Q) (hm:m<=1048576)
 (aA:∀k ag,k<m->Q k ag->∃x,b5 Any h (enc x) ag/\ag.length=size/\ks x<=k):∃xs:List α,xs.length=len/\(xs.map ks).sum+1<=m/\dj Any h size (xs.map enc) v:=by
 obtain ⟨_,_,_,_,aG,us,ms,bK,bT,en,gg⟩:=H;have aqj:=W6 fun i k q=>(gg i k q).1;obtain ⟨xs,bN,a2,uV,a3,a4,a5,hN⟩:=QH (h:=h) enc ks size ms us (by rw [bT];exact bK.1) (fun i k q=>by have:=W5 q;obtain ⟨x,bq,dx,nr⟩:=aA k _ (by omega) (gg i k q).2;exact ⟨x,bq,dx,nr⟩);refine ⟨xs,by omega,by omega,aG,by rw [List.length_map];unfold top;omega,⟨uV,?_,by rw [a4,List.length_map],a5,hN⟩,fun _ _=>trivial⟩;rw [List.length_map,bN,bT,<-a3];exact bK
end
end Go.Proofs.YthemdhlheglhoaaGreatDoor.aY
