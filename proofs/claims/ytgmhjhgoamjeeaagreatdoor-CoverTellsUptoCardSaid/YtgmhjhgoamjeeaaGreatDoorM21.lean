/- The abstract machine and its walks (a verified interpreter of the model's code: plain definitions and lemmas, no condition). Printed by a program from longer texts: names made short. -/
import Derived.Test.YtgmhjhgoamjeeaaGreatDoorM4
set_option linter.unusedSectionVars false
set_option linter.unusedSimpArgs false
set_option linter.unusedVariables false
set_option maxHeartbeats 64000000
noncomputable section
namespace Go.Proofs.YtgmhjhgoamjeeaaGreatDoor.a7
section
open Go Go.RowKit
variable [Lay]
theorem Qt {α:Type} {h:ag} (enc:α->List D) (lv:α->Nat) (size:Nat):∀(ms:List Nat) (us:List V),us.length=ms.length * size->(∀(i k:Nat),ms[i]? =some k->∃x,cb Any h (enc x) ((us.drop (i * size)).take size)/\((us.drop (i * size)).take size).length=size/\lv x<=k)->
 ∃xs:List α,xs.length=ms.length/\(xs.map lv).sum<=ms.sum/\∃vu:List (List V),us=vu.flatten/\vu.length=xs.length/\(∀u ∈ vu,u.length=size)/\∀(i:Nat) (e:List D) (u:List V),(xs.map enc)[i]? =some e->vu[i]? =some u->cb Any h e u
 | [],us,aw,_=>⟨[],rfl,ap7 _,[],by simpa using aw,rfl,(fun u q=>(by cases q)),(fun i e u q=>(by simp at q))⟩
 | m::ms,us,aw,ar=>by
   rw [aqb,asr] at aw;obtain ⟨x,bD,er,kQ⟩:=ar 0 m rfl;rw [asm,ara] at bD er;obtain ⟨xs,bC,a2,vu,a3,a4,a5,ka⟩:=Qt enc lv size ms (us.drop size) (by rw [aqG];omega) (fun i k q=>by have:=ar (i+1) k (by simpa using q);rw [show (i+1) * size=size+i * size from by rw [asr,asc],<-arn] at this;exact this);refine ⟨x::xs,by simp [bC],by simp only [are,ar7];omega,us.take size::vu,by rw [arc,<-a3,arx],by simp [a4],fun u q=>?_,fun i e u al au=>?_⟩
   . rcases aql.1 q with rfl | q
     . exact er
     . exact a5 u q
   . cases i with
     | zero=>
       simp only [are,aqm,ap3] at al au;subst al au;exact bD
     | succ i=>exact ka i e u (by simpa using al) (by simpa using au)
theorem UT {α:Type} (enc:α->List D) (lv:α->Nat) {h:ag} {size len m:Nat} {v:V} {Q:Nat->List V->Prop} (H:x_ h size v len m Q) (hm:m<=1048576)
 (ar:∀k ah,k<m->Q k ah->∃x,cb Any h (enc x) ah/\ah.length=size/\lv x<=k):∃xs:List α,xs.length=len/\(xs.map lv).sum+1<=m/\bB Any h size (xs.map enc) v:=by
 obtain ⟨_,_,_,_,aD,us,ms,cd,cn,fO,gw⟩:=H;have afy:=MA fun i k q=>(gw i k q).1;obtain ⟨xs,bC,a2,vu,a3,a4,a5,ka⟩:=Qt (h:=h) enc lv size ms us (by rw [cn];exact cd.1) (fun i k q=>by have:=Mz q;obtain ⟨x,bD,er,kQ⟩:=ar k _ (by omega) (gw i k q).2;exact ⟨x,bD,er,kQ⟩);refine ⟨xs,by omega,by omega,aD,by rw [ap6];unfold top;omega,⟨vu,?_,by rw [a4,ap6],a5,ka⟩,fun _ _=>trivial⟩;rw [ap6,bC,cn,<-a3];exact cd
end
end Go.Proofs.YtgmhjhgoamjeeaaGreatDoor.a7
