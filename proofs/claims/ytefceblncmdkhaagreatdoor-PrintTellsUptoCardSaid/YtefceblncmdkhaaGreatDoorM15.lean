/- The abstract machine and its walks (a verified interpreter of the model's code: plain definitions and lemmas, no condition). Printed by a program from longer texts: names made short. -/
import Derived.Test.YtefceblncmdkhaaGreatDoorM5
set_option linter.unusedSectionVars false
set_option linter.unusedSimpArgs false
set_option linter.unusedVariables false
set_option maxHeartbeats 64000000
noncomputable section
namespace Go.Proofs.YtefceblncmdkhaaGreatDoor.bb
section
open Go Go.RowKit
variable [Lay]
theorem OW {α:Type} {h:ah} (enc:α->List D) (lM:α->Nat) (size:Nat):∀(ms:List Nat) (us:List V),us.length=ms.length * size->(∀(i k:Nat),ms[i]? =some k->∃x,cg Any h (enc x) ((us.drop (i * size)).take size)/\((us.drop (i * size)).take size).length=size/\lM x<=k)->
 ∃xs:List α,xs.length=ms.length/\(xs.map lM).sum<=ms.sum/\∃u0:List (List V),us=u0.flatten/\u0.length=xs.length/\(∀u ∈ u0,u.length=size)/\∀(i:Nat) (e:List D) (u:List V),(xs.map enc)[i]? =some e->u0[i]? =some u->cg Any h e u
 | [],us,aw,_=>⟨[],rfl,anD _,[],by simpa using aw,rfl,(fun u q=>(by cases q)),(fun i e u q=>(by simp at q))⟩
 | m::ms,us,aw,aq=>by
   rw [anz,apG] at aw;obtain ⟨x,bf,du,u1⟩:=aq 0 m rfl;rw [Nat.zero_mul,aok] at bf du;obtain ⟨xs,bP,a2,u0,a3,a4,a5,ks⟩:=OW enc lM size ms (us.drop size) (by rw [an1];omega) (fun i k q=>by have:=aq (i+1) k (by simpa using q);rw [show (i+1) * size=size+i * size from by rw [apG,apy],<-aoK] at this;exact this);refine ⟨x::xs,by simp [bP],by simp only [aow,apz];omega,us.take size::u0,by rw [aoE,<-a3,ao1],by simp [a4],fun u q=>?_,fun i e u ag av=>?_⟩
   . rcases an2.1 q with rfl | q
     . exact du
     . exact a5 u q
   . cases i with
     | zero=>
       simp only [aow,anR,ant] at ag av;subst ag av;exact bf
     | succ i=>exact ks i e u (by simpa using ag) (by simpa using av)
theorem Tf {α:Type} (enc:α->List D) (lM:α->Nat) {h:ah} {size len m:Nat} {v:V} {Q:Nat->List V->Prop} (H:Dq h size v len m Q) (hm:m<=1048576)
 (aq:∀k ai,k<m->Q k ai->∃x,cg Any h (enc x) ai/\ai.length=size/\lM x<=k):∃xs:List α,xs.length=len/\(xs.map lM).sum+1<=m/\ch Any h size (xs.map enc) v:=by
 obtain ⟨_,_,_,_,aK,us,ms,bX,b_,dY,eQ⟩:=H;have amF:=US fun i k q=>(eQ i k q).1;obtain ⟨xs,bP,a2,u0,a3,a4,a5,ks⟩:=OW (h:=h) enc lM size ms us (by rw [b_];exact bX.1) (fun i k q=>by have:=UR q;obtain ⟨x,bf,du,u1⟩:=aq k _ (by omega) (eQ i k q).2;exact ⟨x,bf,du,u1⟩);refine ⟨xs,by omega,by omega,aK,by rw [anK];unfold top;omega,⟨u0,?_,by rw [a4,anK],a5,ks⟩,fun _ _=>trivial⟩;rw [anK,bP,b_,<-a3];exact bX
end
end Go.Proofs.YtefceblncmdkhaaGreatDoor.bb
