/- The abstract machine and its walks (a verified interpreter of the model's code: plain definitions and lemmas, no condition). Printed by a program from longer texts: names made short. -/
import Derived.Test.YtefceblncmdkhaaGreatDoorM9
set_option linter.unusedSectionVars false
set_option linter.unusedSimpArgs false
set_option linter.unusedVariables false
set_option maxHeartbeats 64000000
noncomputable section
namespace Go.Proofs.YtefceblncmdkhaaGreatDoor.bb
section
open Go Go.RowKit
variable [Lay]
theorem e3.ZR {h:ah} {size:Nat} {v:V} {n:Nat} {ai:List V} (H:e3 h size v n ai) {k bu:IntKind} {bQ au:Nat} (J:bQ<=au) (ad:au<=n) (lz lk:Option V)
 (eB:lz=some (.int k bQ)\/lz=none/\bQ=0) (ih:lk=some (.int bu au)\/lk=none/\au=n) (lf:xd v) {c_:V} (e:gN size v lz lk none=some c_):xd c_:=by
 have pd:∀d y,bQ<=y->d=0->bound lz d y=some bQ:=fun d y a6 aZ=>by
  rcases eB with rfl | ⟨rfl,h⟩
  . exact xX a6
  . rw [vu,aZ,h]
 have q8:∀d y,au<=y->d=n->bound lk d y=some au:=fun d y a6 aZ=>by
  rcases ih with rfl | ⟨rfl,h⟩
  . exact xX a6
  . rw [vu,aZ,h]
 have cN:=H.2;intro b o l c q;subst q;cases v<;>simp only at cN<;>try (exact cN.elim)
 case cr=>
  subst cN;obtain rfl:au=0:=by omega
  obtain rfl:bQ=0:=by omega
  simp only [gN,zD,q8 0 0 (by omega) rfl,pd 0 0 (by omega) rfl] at e;cases e
 case slice nT off len cap=>
  obtain ⟨rfl,_⟩:=cN;have ao:=lf nT off len cap rfl;simp only [gN,rY,q8 len cap (by omega) rfl,pd 0 au J rfl,ant,V.slice.injEq] at e;omega
 case et nT off len idx=>
  obtain ⟨rfl,_⟩:=cN;simp only [gN,s_,q8 len len (by omega) rfl,pd 0 au J rfl] at e;cases aj:Nat.blt bQ len<;>rw [aj] at e<;>cases e
 case gV=>
  subst cN;obtain rfl:au=0:=by omega
  obtain rfl:bQ=0:=by omega
  simp only [gN,zE,q8 0 0 (by omega) rfl,pd 0 0 (by omega) rfl] at e;cases e
theorem P1 {size:Nat}:∀(us:List (List V)) (i:Nat),(∀u ∈ us,u.length=size)->(us.drop i).flatten=us.flatten.drop (i * size)
 | us,0,_=>by simp
 | [],i+1,_=>by simp
 | u::us,i+1,h=>by rw [aoM,P1 us i (fun w q=>h w (by simp [q])),aoE,show (i+1) * size=u.length+i * size from by rw [h u (by simp),apG,apy],<-aoK,List.drop_left]
theorem P2 {size:Nat}:∀(us:List (List V)) (i:Nat),(∀u ∈ us,u.length=size)->(us.take i).flatten=us.flatten.take (i * size)
 | us,0,_=>by simp
 | [],i+1,_=>by simp
 | u::us,i+1,h=>by rw [aoL,aoE,P2 us i (fun w q=>h w (by simp [q])),aoE,show (i+1) * size=u.length+i * size from by rw [h u (by simp),apG,apy],List.take_append];rw [aos (show u.length<=u.length+i * size by omega),apr]
theorem ch.cut {F:aU->Prop} {h:ah} {size:Nat} {es:List (List D)} {v:V} (L:ch F h size es v) {k bu:IntKind} {bQ au:Nat} (J:bQ<=au) (ad:au<=es.length) (lz lk:Option V)
 (eB:lz=some (.int k bQ)\/lz=none/\bQ=0) (ih:lk=some (.int bu au)\/lk=none/\au=es.length):
 ∃c_,gN size v lz lk none=some c_/\ch F h size ((es.drop bQ).take (au-bQ)) c_:=by
 obtain ⟨us,b4,b1,jt,iZ⟩:=L.ex;have hle:=L.le;obtain ⟨c_,ag,av,aJ⟩:=b4.cut (k:=k) (bu:=bu) J ad lz lk eB ih fun b o l c e=>L.room b o l c e;have hlen:((es.drop bQ).take (au-bQ)).length=au-bQ:=by rw [aod,an1];omega
 have acP:((us.drop bQ).take (au-bQ)).length=au-bQ:=by rw [aod,an1];omega
 refine ⟨c_,ag,b4.ZR J ad lz lk eB ih L.room ag,by rw [hlen];omega,⟨(us.drop bQ).take (au-bQ),?_,by rw [hlen,acP],fun u q=>jt u (aoD (aoq q)),fun i e u ag av=>?_⟩,fun b q=>L.yd b (aJ b q)⟩
 . rw [hlen,P2 _ _ (fun u q=>jt u (aoD q)),P1 _ _ jt];exact av
 . have kf:i<au-bQ:=by have:=(anU.1 ag).1;omega
   rw [aox kf,aoJ] at ag av;exact iZ _ e u ag av
theorem ch.take {F:aU->Prop} {h:ah} {size:Nat} {es:List (List D)} {v:V} (L:ch F h size es v) {k:IntKind} {i:Nat} (au:i<=es.length):∃c_,gN size v none (some (.int k i)) none=some c_/\ch F h size (es.take i) c_:=by have:=L.cut (k:=k) (bu:=k) (bQ:=0) (au:=i) (apj _) au none (some (.int k i)) (.inr ⟨rfl,rfl⟩) (.inl rfl);simpa using this
theorem ch.drop {F:aU->Prop} {h:ah} {size:Nat} {es:List (List D)} {v:V} (L:ch F h size es v) {k:IntKind} {i:Nat} (au:i<=es.length):∃c_,gN size v (some (.int k i)) none none=some c_/\ch F h size (es.drop i) c_:=by have:=L.cut (k:=k) (bu:=k) (bQ:=i) (au:=es.length) au (anD _) (some (.int k i)) none (.inl rfl) (.inr ⟨rfl,rfl⟩);rwa [aos (by rw [an1];omega)] at this
end
end Go.Proofs.YtefceblncmdkhaaGreatDoor.bb
