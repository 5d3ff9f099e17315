/- The abstract machine and its walks (a verified interpreter of the model's code: plain definitions and lemmas, no condition). Printed by a program from longer texts: names made short. -/
import Derived.Test.YtgmhjhgoamjeeaaGreatDoorM11
set_option linter.unusedSectionVars false
set_option linter.unusedSimpArgs false
set_option linter.unusedVariables false
set_option maxHeartbeats 64000000
noncomputable section
namespace Go.Proofs.YtgmhjhgoamjeeaaGreatDoor.aZ
section
open Go Go.RowKit
variable [Lay]
theorem e2.aaM {h:ae} {size:Nat} {v:V} {n:Nat} {af:List V} (H:e2 h size v n af) {k bp:IntKind} {br ax:Nat} (U:br<=ax) (ab:ax<=n) (kS kK:Option V)
 (dZ:kS=some (.int k br)\/kS=none/\br=0) (hH:kK=some (.int bp ax)\/kK=none/\ax=n) (kH:w_ v) {b1:V} (e:hP size v kS kK none=some b1):w_ b1:=by
 have oK:∀d y,br<=y->d=0->bound kS d y=some br:=fun d y aY aH=>by
  rcases dZ with rfl | ⟨rfl,h⟩
  . exact vM aY
  . rw [tW,aH,h]
 have q1:∀d y,ax<=y->d=n->bound kK d y=some ax:=fun d y aY aH=>by
  rcases hH with rfl | ⟨rfl,h⟩
  . exact vM aY
  . rw [tW,aH,h]
 have cE:=H.2;intro b o l c q;subst q;cases v<;>simp only at cE<;>try (exact cE.elim)
 case bu=>
  subst cE;obtain rfl:ax=0:=by omega
  obtain rfl:br=0:=by omega
  simp only [hP,zu,q1 0 0 (by omega) rfl,oK 0 0 (by omega) rfl] at e;cases e
 case slice mT off len cap=>
  obtain ⟨rfl,_⟩:=cE;have au:=kH mT off len cap rfl;simp only [hP,rU,q1 len cap (by omega) rfl,oK 0 ax U rfl,apq,V.slice.injEq] at e;omega
 case dW mT off len idx=>
  obtain ⟨rfl,_⟩:=cE;simp only [hP,rT,q1 len len (by omega) rfl,oK 0 ax U rfl] at e;cases ah:Nat.blt br len<;>rw [ah] at e<;>cases e
 case gb=>
  subst cE;obtain rfl:ax=0:=by omega
  obtain rfl:br=0:=by omega
  simp only [hP,zv,q1 0 0 (by omega) rfl,oK 0 0 (by omega) rfl] at e;cases e
theorem QE {size:Nat}:∀(us:List (List V)) (i:Nat),(∀u ∈ us,u.length=size)->(us.drop i).flatten=us.flatten.drop (i * size)
 | us,0,_=>by simp
 | [],i+1,_=>by simp
 | u::us,i+1,h=>by rw [aqU,QE us i (fun w q=>h w (by simp [q])),aqy,show (i+1) * size=u.length+i * size from by rw [h u (by simp),arF,arp],<-aqE,List.drop_left]
theorem QF {size:Nat}:∀(us:List (List V)) (i:Nat),(∀u ∈ us,u.length=size)->(us.take i).flatten=us.flatten.take (i * size)
 | us,0,_=>by simp
 | [],i+1,_=>by simp
 | u::us,i+1,h=>by rw [aqC,aqy,QF us i (fun w q=>h w (by simp [q])),aqy,show (i+1) * size=u.length+i * size from by rw [h u (by simp),arF,arp],List.take_append];rw [apZ (show u.length<=u.length+i * size by omega),art]
theorem bN.cut {F:aO->Prop} {h:ae} {size:Nat} {es:List (List D)} {v:V} (L:bN F h size es v) {k bp:IntKind} {br ax:Nat} (U:br<=ax) (ab:ax<=es.length) (kS kK:Option V)
 (dZ:kS=some (.int k br)\/kS=none/\br=0) (hH:kK=some (.int bp ax)\/kK=none/\ax=es.length):
 ∃b1,hP size v kS kK none=some b1/\bN F h size ((es.drop br).take (ax-br)) b1:=by
 obtain ⟨us,bP,bH,k6,hR⟩:=L.ex;have hle:=L.le;obtain ⟨b1,aj,an,aJ⟩:=bP.cut (k:=k) (bp:=bp) U ab kS kK dZ hH fun b o l c e=>L.room b o l c e;have hlen:((es.drop br).take (ax-br)).length=ax-br:=by rw [apU,apY];omega
 have ad7:((us.drop br).take (ax-br)).length=ax-br:=by rw [apU,apY];omega
 refine ⟨b1,aj,bP.aaM U ab kS kK dZ hH L.room aj,by rw [hlen];omega,⟨(us.drop br).take (ax-br),?_,by rw [hlen,ad7],fun u q=>k6 u (List.mem_of_mem_drop (List.mem_of_mem_take q)),fun i e u aj an=>?_⟩,fun b q=>L.uc b (aJ b q)⟩
 . rw [hlen,QF _ _ (fun u q=>k6 u (List.mem_of_mem_drop q)),QE _ _ k6];exact an
 . have sK:i<ax-br:=by have:=(apL.1 aj).1;omega
   rw [aqk sK,aqA] at aj an;exact hR _ e u aj an
theorem bN.take {F:aO->Prop} {h:ae} {size:Nat} {es:List (List D)} {v:V} (L:bN F h size es v) {k:IntKind} {i:Nat} (ax:i<=es.length):∃b1,hP size v none (some (.int k i)) none=some b1/\bN F h size (es.take i) b1:=by have:=L.cut (k:=k) (bp:=k) (br:=0) (ax:=i) (aqL _) ax none (some (.int k i)) (.inr ⟨rfl,rfl⟩) (.inl rfl);simpa using this
end
end Go.Proofs.YtgmhjhgoamjeeaaGreatDoor.aZ
