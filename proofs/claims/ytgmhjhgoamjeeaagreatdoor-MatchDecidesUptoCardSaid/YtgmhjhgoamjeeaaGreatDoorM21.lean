/- The abstract machine and its walks (a verified interpreter of the model's code: plain definitions and lemmas, no condition). Printed by a program from longer texts: names made short. -/
import Derived.Test.YtgmhjhgoamjeeaaGreatDoorM4
set_option linter.unusedSectionVars false
set_option linter.unusedSimpArgs false
set_option linter.unusedVariables false
set_option maxHeartbeats 64000000
noncomputable section
namespace Go.Proofs.YtgmhjhgoamjeeaaGreatDoor.aX
section
open Go Go.RowKit
variable [Lay]
theorem QB {α:Type} {h:ae} (enc:α->List D) (lj:α->Nat) (size:Nat):∀(ms:List Nat) (us:List V),us.length=ms.length * size->(∀(i k:Nat),ms[i]? =some k->∃x,bM Any h (enc x) ((us.drop (i * size)).take size)/\((us.drop (i * size)).take size).length=size/\lj x<=k)->
 ∃xs:List α,xs.length=ms.length/\(xs.map lj).sum<=ms.sum/\∃vz:List (List V),us=vz.flatten/\vz.length=xs.length/\(∀u ∈ vz,u.length=size)/\∀(i:Nat) (e:List D) (u:List V),(xs.map enc)[i]? =some e->vz[i]? =some u->bM Any h e u
 | [],us,ax,_=>⟨[],rfl,arv _,[],by simpa using ax,rfl,(fun u q=>(by cases q)),(fun i e u q=>(by simp at q))⟩
 | m::ms,us,ax,ay=>by
   rw [arA,atB] at ax;obtain ⟨x,bu,eQ,ng⟩:=ay 0 m rfl;rw [atu,asf] at bu eQ;obtain ⟨xs,bE,a2,vz,a3,a4,a5,ha⟩:=QB enc lj size ms (us.drop size) (by rw [asc];omega) (fun i k q=>by have:=ay (i+1) k (by simpa using q);rw [show (i+1) * size=size+i * size from by rw [atB,Nat.add_comm],<-asM] at this;exact this);refine ⟨x::xs,by simp [bE],by simp only [ast,atb];omega,us.take size::vz,by rw [asG,<-a3,asI],by simp [a4],fun u q=>?_,fun i e u al ao=>?_⟩
   . rcases arM.1 q with rfl | q
     . exact eQ
     . exact a5 u q
   . cases i with
     | zero=>
       simp only [ast,arG,arq] at al ao;subst al ao;exact bu
     | succ i=>exact ha i e u (by simpa using al) (by simpa using ao)
theorem Vf {α:Type} (enc:α->List D) (lj:α->Nat) {h:ae} {size len m:Nat} {v:V} {Q:Nat->List V->Prop} (H:x5 h size v len m Q) (hm:m<=1048576)
 (ay:∀k af,k<m->Q k af->∃x,bM Any h (enc x) af/\af.length=size/\lj x<=k):∃xs:List α,xs.length=len/\(xs.map lj).sum+1<=m/\bY Any h size (xs.map enc) v:=by
 obtain ⟨_,_,_,_,aD,us,ms,b3,b5,dW,fY⟩:=H;have agy:=MU fun i k q=>(fY i k q).1;obtain ⟨xs,bE,a2,vz,a3,a4,a5,ha⟩:=QB (h:=h) enc lj size ms us (by rw [b5];exact b3.1) (fun i k q=>by have:=MT q;obtain ⟨x,bu,eQ,ng⟩:=ay k _ (by omega) (fY i k q).2;exact ⟨x,bu,eQ,ng⟩);refine ⟨xs,by omega,by omega,aD,by rw [arC];unfold top;omega,⟨vz,?_,by rw [a4,arC],a5,ha⟩,fun _ _=>trivial⟩;rw [arC,bE,b5,<-a3];exact b3
end
end Go.Proofs.YtgmhjhgoamjeeaaGreatDoor.aX
