/- The abstract machine and its walks (a verified interpreter of the model's code: plain definitions and lemmas, no condition). Printed by a program from longer texts: names made short. -/
import Derived.Test.YtgmhjhgoamjeeaaGreatDoorM4
set_option linter.unusedSectionVars false
set_option linter.unusedSimpArgs false
set_option linter.unusedVariables false
set_option maxHeartbeats 64000000
noncomputable section
namespace Go.Proofs.YtgmhjhgoamjeeaaGreatDoor.aZ
section
open Go Go.RowKit
variable [Lay]
theorem PA {α:Type} {h:ae} (enc:α->List D) (k5:α->Nat) (size:Nat):∀(ms:List Nat) (us:List V),us.length=ms.length * size->(∀(i k:Nat),ms[i]? =some k->∃x,b6 Any h (enc x) ((us.drop (i * size)).take size)/\((us.drop (i * size)).take size).length=size/\k5 x<=k)->
 ∃xs:List α,xs.length=ms.length/\(xs.map k5).sum<=ms.sum/\∃va:List (List V),us=va.flatten/\va.length=xs.length/\(∀u ∈ va,u.length=size)/\∀(i:Nat) (e:List D) (u:List V),(xs.map enc)[i]? =some e->va[i]? =some u->b6 Any h e u
 | [],us,ar,_=>⟨[],rfl,aps _,[],by simpa using ar,rfl,(fun u q=>(by cases q)),(fun i e u q=>(by simp at q))⟩
 | m::ms,us,ar,aq=>by
   rw [apz,arF] at ar;obtain ⟨x,bB,eH,nC⟩:=aq 0 m rfl;rw [arE,aqu] at bB eH;obtain ⟨xs,bJ,a2,va,a3,a4,a5,gX⟩:=PA enc k5 size ms (us.drop size) (by rw [apY];omega) (fun i k q=>by have:=aq (i+1) k (by simpa using q);rw [show (i+1) * size=size+i * size from by rw [arF,arp],<-aqE] at this;exact this);refine ⟨x::xs,by simp [bJ],by simp only [aqt,arj];omega,us.take size::va,by rw [aqy,<-a3,aqN],by simp [a4],fun u q=>?_,fun i e u aj an=>?_⟩
   . rcases apI.1 q with rfl | q
     . exact eH
     . exact a5 u q
   . cases i with
     | zero=>
       simp only [aqt,apH,apq] at aj an;subst aj an;exact bB
     | succ i=>exact gX i e u (by simpa using aj) (by simpa using an)
theorem aj7 {α:Type} (enc:α->List D) (k5:α->Nat) {h:ae} {size len m:Nat} {v:V} {Q:Nat->List V->Prop} (H:Ai h size v len m Q) (hm:m<=1048576)
 (aq:∀k af,k<m->Q k af->∃x,b6 Any h (enc x) af/\af.length=size/\k5 x<=k):∃xs:List α,xs.length=len/\(xs.map k5).sum+1<=m/\bN Any h size (xs.map enc) v:=by
 obtain ⟨_,_,_,_,aD,us,ms,cm,cz,fH,f_⟩:=H;have aeO:=L3 fun i k q=>(f_ i k q).1;obtain ⟨xs,bJ,a2,va,a3,a4,a5,gX⟩:=PA (h:=h) enc k5 size ms us (by rw [cz];exact cm.1) (fun i k q=>by have:=L2 q;obtain ⟨x,bB,eH,nC⟩:=aq k _ (by omega) (f_ i k q).2;exact ⟨x,bB,eH,nC⟩);refine ⟨xs,by omega,by omega,aD,by rw [apv];unfold top;omega,⟨va,?_,by rw [a4,apv],a5,gX⟩,fun _ _=>trivial⟩;rw [apv,bJ,cz,<-a3];exact cm
end
end Go.Proofs.YtgmhjhgoamjeeaaGreatDoor.aZ
