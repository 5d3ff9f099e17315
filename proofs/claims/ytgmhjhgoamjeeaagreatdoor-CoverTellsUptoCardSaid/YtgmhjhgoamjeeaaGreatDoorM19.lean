/- The abstract machine and its walks (a verified interpreter of the model's code: plain definitions and lemmas, no condition). Printed by a program from longer texts: names made short. -/
import Derived.Test.YtgmhjhgoamjeeaaGreatDoorM11
set_option linter.unusedSectionVars false
set_option linter.unusedSimpArgs false
set_option linter.unusedVariables false
set_option maxHeartbeats 64000000
noncomputable section
namespace Go.Proofs.YtgmhjhgoamjeeaaGreatDoor.a7
section
open Go Go.RowKit
variable [Lay]
theorem fl.abw {h:ag} {size:Nat} {v:V} {n:Nat} {ah:List V} (H:fl h size v n ah) {k bs:IntKind} {bu aB:Nat} (aa:bu<=aB) (ae:aB<=n) (lf k4:Option V)
 (d':lf=some (.int k bu)\/lf=none/\bu=0) (h7:k4=some (.int bs aB)\/k4=none/\aB=n) (k1:xA v) {cQ:V} (e:hr size v lf k4 none=some cQ):xA cQ:=by
 have pf:∀d y,bu<=y->d=0->bound lf d y=some bu:=fun d y a1 aq=>by
  rcases d' with rfl | ⟨rfl,h⟩
  . exact uo a1
  . rw [v8,aq,h]
 have rn:∀d y,aB<=y->d=n->bound k4 d y=some aB:=fun d y a1 aq=>by
  rcases h7 with rfl | ⟨rfl,h⟩
  . exact uo a1
  . rw [v8,aq,h]
 have cf:=H.2;intro b o l c q;subst q;cases v<;>simp only at cf<;>try (exact cf.elim)
 case bL=>
  subst cf;obtain rfl:aB=0:=by omega
  obtain rfl:bu=0:=by omega
  simp only [hr,Ae,rn 0 0 (by omega) rfl,pf 0 0 (by omega) rfl] at e;cases e
 case slice jC off len cap=>
  obtain ⟨rfl,_⟩:=cf;have av:=k1 jC off len cap rfl;simp only [hr,q0,rn len cap (by omega) rfl,pf 0 aB aa rfl,ap3,V.slice.injEq] at e;omega
 case ee jC off len idx=>
  obtain ⟨rfl,_⟩:=cf;simp only [hr,sf,rn len len (by omega) rfl,pf 0 aB aa rfl] at e;cases ak:Nat.blt bu len<;>rw [ak] at e<;>cases e
 case gB=>
  subst cf;obtain rfl:aB=0:=by omega
  obtain rfl:bu=0:=by omega
  simp only [hr,Af,rn 0 0 (by omega) rfl,pf 0 0 (by omega) rfl] at e;cases e
theorem Ry {size:Nat}:∀(us:List (List V)) (i:Nat),(∀u ∈ us,u.length=size)->(us.drop i).flatten=us.flatten.drop (i * size)
 | us,0,_=>by simp
 | [],i+1,_=>by simp
 | u::us,i+1,h=>by rw [arH,Ry us i (fun w q=>h w (by simp [q])),arc,show (i+1) * size=u.length+i * size from by rw [h u (by simp),asr,asc],<-arn,List.drop_left]
theorem RA {size:Nat}:∀(us:List (List V)) (i:Nat),(∀u ∈ us,u.length=size)->(us.take i).flatten=us.flatten.take (i * size)
 | us,0,_=>by simp
 | [],i+1,_=>by simp
 | u::us,i+1,h=>by rw [ari,arc,RA us i (fun w q=>h w (by simp [q])),arc,show (i+1) * size=u.length+i * size from by rw [h u (by simp),asr,asc],List.take_append];rw [aqt (show u.length<=u.length+i * size by omega),arA]
theorem bB.cut {F:aQ->Prop} {h:ag} {size:Nat} {es:List (List D)} {v:V} (L:bB F h size es v) {k bs:IntKind} {bu aB:Nat} (aa:bu<=aB) (ae:aB<=es.length) (lf k4:Option V)
 (d':lf=some (.int k bu)\/lf=none/\bu=0) (h7:k4=some (.int bs aB)\/k4=none/\aB=es.length):
 ∃cQ,hr size v lf k4 none=some cQ/\bB F h size ((es.drop bu).take (aB-bu)) cQ:=by
 obtain ⟨us,bT,bN,ly,ic⟩:=L.ex;have hle:=L.le;obtain ⟨cQ,al,au,aJ⟩:=bT.cut (k:=k) (bs:=bs) aa ae lf k4 d' h7 fun b o l c e=>L.room b o l c e;have hlen:((es.drop bu).take (aB-bu)).length=aB-bu:=by rw [aqw,aqG];omega
 have aeR:((us.drop bu).take (aB-bu)).length=aB-bu:=by rw [aqw,aqG];omega
 refine ⟨cQ,al,bT.abw aa ae lf k4 d' h7 L.room al,by rw [hlen];omega,⟨(us.drop bu).take (aB-bu),?_,by rw [hlen,aeR],fun u q=>ly u (List.mem_of_mem_drop (List.mem_of_mem_take q)),fun i e u al au=>?_⟩,fun b q=>L.uA b (aJ b q)⟩
 . rw [hlen,RA _ _ (fun u q=>ly u (List.mem_of_mem_drop q)),Ry _ _ ly];exact au
 . have s4:i<aB-bu:=by have:=(aqp.1 al).1;omega
   rw [aq3 s4,arl] at al au;exact ic _ e u al au
theorem bB.take {F:aQ->Prop} {h:ag} {size:Nat} {es:List (List D)} {v:V} (L:bB F h size es v) {k:IntKind} {i:Nat} (aB:i<=es.length):∃cQ,hr size v none (some (.int k i)) none=some cQ/\bB F h size (es.take i) cQ:=by have:=L.cut (k:=k) (bs:=k) (bu:=0) (aB:=i) (arj _) aB none (some (.int k i)) (.inr ⟨rfl,rfl⟩) (.inl rfl);simpa using this
theorem bB.drop {F:aQ->Prop} {h:ag} {size:Nat} {es:List (List D)} {v:V} (L:bB F h size es v) {k:IntKind} {i:Nat} (aB:i<=es.length):∃cQ,hr size v (some (.int k i)) none none=some cQ/\bB F h size (es.drop i) cQ:=by have:=L.cut (k:=k) (bs:=k) (bu:=i) (aB:=es.length) aB (ap7 _) (some (.int k i)) none (.inl rfl) (.inr ⟨rfl,rfl⟩);rwa [aqt (by rw [aqG];omega)] at this
end
end Go.Proofs.YtgmhjhgoamjeeaaGreatDoor.a7
