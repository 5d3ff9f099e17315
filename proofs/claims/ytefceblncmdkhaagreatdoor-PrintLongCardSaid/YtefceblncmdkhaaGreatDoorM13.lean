/- The abstract machine and its walks (a verified interpreter of the model's code: plain definitions and lemmas, no condition). Printed by a program from longer texts: names made short. -/
import Derived.Test.YtefceblncmdkhaaGreatDoorM9
set_option linter.unusedSectionVars false
set_option linter.unusedSimpArgs false
set_option linter.unusedVariables false
set_option maxHeartbeats 64000000
noncomputable section
namespace Go.Proofs.YtefceblncmdkhaaGreatDoor.bd
section
open Go Go.RowKit
variable [Lay]
theorem e9.Ze {h:ah} {size:Nat} {v:V} {n:Nat} {ai:List V} (H:e9 h size v n ai) {k bx:IntKind} {bO au:Nat} (J:bO<=au) (ad:au<=n) (ly lk:Option V)
 (eE:ly=some (.int k bO)\/ly=none/\bO=0) (h_:lk=some (.int bx au)\/lk=none/\au=n) (lf:zq v) {cI:V} (e:gJ size v ly lk none=some cI):zq cI:=by
 have pd:∀d y,bO<=y->d=0->bound ly d y=some bO:=fun d y a1 aZ=>by
  rcases eE with rfl | ⟨rfl,h⟩
  . exact xR a1
  . rw [vr,aZ,h]
 have q4:∀d y,au<=y->d=n->bound lk d y=some au:=fun d y a1 aZ=>by
  rcases h_ with rfl | ⟨rfl,h⟩
  . exact xR a1
  . rw [vr,aZ,h]
 have c6:=H.2;intro b o l c q;subst q;cases v<;>simp only at c6<;>try (exact c6.elim)
 case cc=>
  subst c6;obtain rfl:au=0:=by omega
  obtain rfl:bO=0:=by omega
  simp only [gJ,zw,q4 0 0 (by omega) rfl,pd 0 0 (by omega) rfl] at e;cases e
 case slice nd off len cap=>
  obtain ⟨rfl,_⟩:=c6;have ao:=lf nd off len cap rfl;simp only [gJ,rW,q4 len cap (by omega) rfl,pd 0 au J rfl,amW,V.slice.injEq] at e;omega
 case eu nd off len idx=>
  obtain ⟨rfl,_⟩:=c6;simp only [gJ,s9,q4 len len (by omega) rfl,pd 0 au J rfl] at e;cases aj:Nat.blt bO len<;>rw [aj] at e<;>cases e
 case gQ=>
  subst c6;obtain rfl:au=0:=by omega
  obtain rfl:bO=0:=by omega
  simp only [gJ,zx,q4 0 0 (by omega) rfl,pd 0 0 (by omega) rfl] at e;cases e
theorem PC {size:Nat}:∀(us:List (List V)) (i:Nat),(∀u ∈ us,u.length=size)->(us.drop i).flatten=us.flatten.drop (i * size)
 | us,0,_=>by simp
 | [],i+1,_=>by simp
 | u::us,i+1,h=>by rw [aoh,PC us i (fun w q=>h w (by simp [q])),an_,show (i+1) * size=u.length+i * size from by rw [h u (by simp),Nat.succ_mul,ao3],<-List.drop_drop,List.drop_left]
theorem PD {size:Nat}:∀(us:List (List V)) (i:Nat),(∀u ∈ us,u.length=size)->(us.take i).flatten=us.flatten.take (i * size)
 | us,0,_=>by simp
 | [],i+1,_=>by simp
 | u::us,i+1,h=>by rw [aoe,an_,PD us i (fun w q=>h w (by simp [q])),an_,show (i+1) * size=u.length+i * size from by rw [h u (by simp),Nat.succ_mul,ao3],List.take_append];rw [an3 (show u.length<=u.length+i * size by omega),aoP]
theorem cq.cut {F:aU->Prop} {h:ah} {size:Nat} {es:List (List D)} {v:V} (L:cq F h size es v) {k bx:IntKind} {bO au:Nat} (J:bO<=au) (ad:au<=es.length) (ly lk:Option V)
 (eE:ly=some (.int k bO)\/ly=none/\bO=0) (h_:lk=some (.int bx au)\/lk=none/\au=es.length):
 ∃cI,gJ size v ly lk none=some cI/\cq F h size ((es.drop bO).take (au-bO)) cI:=by
 obtain ⟨us,b4,b1,jY,jZ⟩:=L.ex;have hle:=L.le;obtain ⟨cI,ag,av,aI⟩:=b4.cut (k:=k) (bx:=bx) J ad ly lk eE h_ fun b o l c e=>L.room b o l c e;have hlen:((es.drop bO).take (au-bO)).length=au-bO:=by rw [anH,anu];omega
 have ace:((us.drop bO).take (au-bO)).length=au-bO:=by rw [anH,anu];omega
 refine ⟨cI,ag,b4.Ze J ad ly lk eE h_ L.room ag,by rw [hlen];omega,⟨(us.drop bO).take (au-bO),?_,by rw [hlen,ace],fun u q=>jY u (an4 (anU q)),fun i e u ag av=>?_⟩,fun b q=>L.x9 b (aI b q)⟩
 . rw [hlen,PD _ _ (fun u q=>jY u (an4 q)),PC _ _ jY];exact av
 . have j9:i<au-bO:=by have:=(anl.1 ag).1;omega
   rw [an8 j9,aom] at ag av;exact jZ _ e u ag av
theorem cq.take {F:aU->Prop} {h:ah} {size:Nat} {es:List (List D)} {v:V} (L:cq F h size es v) {k:IntKind} {i:Nat} (au:i<=es.length):∃cI,gJ size v none (some (.int k i)) none=some cI/\cq F h size (es.take i) cI:=by have:=L.cut (k:=k) (bx:=k) (bO:=0) (au:=i) (aoL _) au none (some (.int k i)) (.inr ⟨rfl,rfl⟩) (.inl rfl);simpa using this
theorem cq.drop {F:aU->Prop} {h:ah} {size:Nat} {es:List (List D)} {v:V} (L:cq F h size es v) {k:IntKind} {i:Nat} (au:i<=es.length):∃cI,gJ size v (some (.int k i)) none none=some cI/\cq F h size (es.drop i) cI:=by have:=L.cut (k:=k) (bx:=k) (bO:=i) (au:=es.length) au (am6 _) (some (.int k i)) none (.inl rfl) (.inr ⟨rfl,rfl⟩);rwa [an3 (by rw [anu];omega)] at this
end
end Go.Proofs.YtefceblncmdkhaaGreatDoor.bd
