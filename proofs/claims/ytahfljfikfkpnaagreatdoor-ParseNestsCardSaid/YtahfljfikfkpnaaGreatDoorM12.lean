/- The chapter's functions, walked by the abstract machine: plain lemmas, no condition. Printed by a program from longer texts: names made short. -/
import Derived.Test.YtahfljfikfkpnaaGreatDoorM10
import Derived.Test.YtahfljfikfkpnaaGreatDoorM11
set_option linter.unusedSectionVars false
set_option linter.unusedSimpArgs false
set_option linter.unusedVariables false
set_option maxHeartbeats 64000000
noncomputable section
namespace Go.Proofs.YtahfljfikfkpnaaGreatDoor
section
open Go bg
section
variable (k n a:Int) (s:List UInt8) (l:List aN)
theorem ahm:(aN.mk k n a s l).k=k:=rfl
theorem aho:(aN.mk k n a s l).n=n:=rfl
theorem ahl:(aN.mk k n a s l).a=a:=rfl
theorem ahp:(aN.mk k n a s l).s=s:=rfl
theorem ahn:(aN.mk k n a s l).l=l:=rfl
end
set_option linter.defProp false in
def bR:=And.intro @ahm<|And.intro @aho<|And.intro @ahl<|And.intro @ahp @ahn
abbrev vcs (p:aN) (v:V):List V:=[.int .i64 p.k,.int .i64 p.n,.int .i64 p.a,.str p.s,v]
abbrev b8:List V:=[.int .i64 0,.int .i64 0,.int .i64 0,.str [],.cS]
structure dq (F:aO->Prop) (h:ah) (p:aN) (v:V):Prop where
 c7:fw F h 5 (p.l.map aN.enc) v
 str:p.s.length<=top
abbrev Fr (B:Nat):aO->Prop:=fun b=>B<=dP b
section
variable {F eZ:aO->Prop} {B ia ak n:Nat} {h af:ah} {p:aN} {v:V}
theorem dq.cs (A:dq F h p v):eJ F h p.enc (vcs p v):=by rw [Fv];exact .i (.i (.i (.s A.str (A.c7.cons .nil))))
theorem dq.ext (A:dq F h p v) (e:Ext h af):dq F af p v:=⟨A.c7.ext e,A.str⟩
theorem dq.eW (A:dq F h p v) (w:∀b,F b->eZ b):dq eZ h p v:=⟨A.c7.eW w,A.str⟩
theorem dq.cO (A:dq (Fr B) h p v) (cj:ia<=B):dq (Fr ia) h p v:=A.eW fun b q=>ao6 cj q
theorem dq.cr (A:dq F h p v):dq (fun b=>F b/\Old h b) h p v:=by have c:=A.cs.cr;rw [Fv] at c;obtain ⟨_,aP,c⟩:=c.int;cases aP;obtain ⟨_,aP,c⟩:=c.int;cases aP;obtain ⟨_,aP,c⟩:=c.int;cases aP;obtain ⟨_,aP,al,c⟩:=c.str;cases aP;obtain ⟨_,_,aP,c,_⟩:=c.c7;cases aP;exact ⟨c,A.str⟩
theorem dq.mod (A:dq (Fr B) h p v) (m:Mod (b3 ak) h af) (ax:ak<B):dq (Fr B) af p v:=⟨A.c7.mod m fun b q _=>⟨fun z=>by rw [show b=an ak from z] at q;unfold Fr at q;rw [dk] at q;omega,q⟩,A.str⟩
theorem dq.set (A:dq F h p v) {b:aO} (ai:¬F b) (k:c'):dq F (h.set b k) p v:=⟨A.c7.set ai k,A.str⟩
theorem dq.box (A:dq (Fr B) h p v) (aF:n<B) (k:c'):dq (Fr B) (h.set (an n) k) p v:=A.set (fun q=>by unfold Fr at q;rw [dk] at q;omega) k
theorem dq.one (A:dq F h p v):v.one=true/\v.cells=[v]/\v.hZ=true:=A.c7.one
theorem iV (F:aO->Prop) (h:ah) (k n a:Int) {s:List UInt8} (al:s.length<=top):dq F h (.mk k n a s []) .cS:=⟨fw.nil _ _ _,al⟩
end
theorem uI {F:aO->Prop} {h:ah} (k:Int) {a b:aN} {b5 eM:V} (A:dq F h a b5) (ta:dq F h b eM):
 dW Tryz.prog 106 [.int .i64 k,.agg (vcs a b5),.agg (vcs b eM)] h fun x af=>∃v,x=.agg (vcs (two k a b) v)/\dq (fun b=>(F b/\Old h b)\/h.next<=dP b) af (two k a b) v/\Ext h af:=by
 refine WY.z rfl (cl ?_);unfold MO;have c9:=A.one;have qX:=ta.one;obtain ⟨ae,ao,aP,bz⟩:=fU h (vcs a b5);obtain ⟨ag,av,bu,ft⟩:=fU ae (vcs b eM);obtain ⟨ar,aC,cT,fl⟩:=fU ag b8;have h_:=aP.trans (bu.trans cT)
 let G:aO->Prop:=fun b=>(F b/\Old h b)\/b=an ar.next
 obtain ⟨aT,bs,cN,L⟩:=xF (F:=G) (h:=ar) (size:=5) rfl rfl ((A.cs.cr.eW fun b q=>.inl q).ext h_) ((ta.cs.cr.eW fun b q=>.inl q).ext h_) (.inr rfl);have qg:=bz.ext (bu.trans cT);have yr:=ft.ext cT;have Ay:=fl.ext cN;simp only [vcs,b8,apm,apx] at ao av aC bs qg yr Ay;simp only [c9.1,c9.2.1,c9.2.2,qX.1,qX.2.1,qX.2.2,ao,av,aC,bs,qg.g,yr.g,Ay.g,aY,↓aa,ad,simprocAttr];have lI:=(aP.trans bu).next
 have n3:=h_.next
 have Cp:=fl.lt;refine ⟨_,rfl,⟨(L.set (fun q=>?_) _).eW fun b q=>?_,api _⟩,(h_.trans cN).set lI _⟩
 . rcases q with q | q
   . exact dh lI q.2
   . rw [lN] at q;omega
 . rcases q with q | q
   . exact .inl q
   . exact .inr (by rw [q,dk];omega)
theorem Ka {F:aO->Prop} {h:ah} (s:List UInt8) (al:s.length<=top) {a b:aN} {b5 eM:V} (A:dq F h a b5) (ta:dq F h b eM):
 dW Tryz.prog 209 [.str s,.agg (vcs a b5),.agg (vcs b eM)] h fun x af=>∃v,x=.agg (vcs (p8 s a b) v)/\dq (fun b=>(F b/\Old h b)\/h.next<=dP b) af (p8 s a b) v/\Ext h af:=by
 refine XM.z rfl (cl ?_);unfold Ny;have c9:=A.one;have qX:=ta.one;obtain ⟨ae,ao,aP,bz⟩:=fU h (vcs a b5);obtain ⟨ag,av,bu,ft⟩:=fU ae (vcs b eM);obtain ⟨ar,aC,cT,fl⟩:=fU ag b8;have h_:=aP.trans (bu.trans cT);have n3:=h_.next
 have lI:=(aP.trans bu).next
 have qg:=bz.ext (bu.trans cT);have yr:=ft.ext cT;have Cp:=fl.lt;simp only [vcs,b8] at ao av aC qg yr fl;simp only [c9.1,c9.2.1,c9.2.2,qX.1,qX.2.1,qX.2.2,ao,av,aC,qg.g,yr.g,fl.g,↓aa,ad,simprocAttr];refine aX (uI 38 (A.cr.ext h_) (ta.cr.ext h_)) ?_;rintro x aT ⟨v,rfl,sb,cN⟩;have n4:=cN.next
 have c2:=sb.one;obtain ⟨bC,ca,e7,iF⟩:=fq aT b8 (vcs (two 38 a b) v);have jn:=sb.cr.ext e7;obtain ⟨bA,cD⟩:∃bA,bA=bC.set (an aT.next) (.bc [.int .i64 38,.int .i64 0,.int .i64 a.a,.str s,v] 0 false):=⟨_,rfl⟩;have jN:=iF.put [.int .i64 38,.int .i64 0,.int .i64 a.a,.str s,v];rw [<-cD] at jN;have Ay:=(fl.ext (cN.trans e7)).set (m:=aT.next) (by omega) (.bc [.int .i64 38,.int .i64 0,.int .i64 a.a,.str s,v] 0 false);rw [<-cD] at Ay;have k2:=jn.set (b:=an aT.next) (fun q=>dh (ao1 _) q.2) (.bc [.int .i64 38,.int .i64 0,.int .i64 a.a,.str s,v] 0 false);rw [<-cD] at k2;simp only [vcs,b8,two,bR] at ca iF;have f42:(aT.next=ag.next)=False:=apl (by omega);simp only [vcs,two,bR,f42,c2.1,c2.2.1,c2.2.2,ca,iF.g,<-cD,jN.g,Ay.g,aY,↓aa,ad,simprocAttr];refine ⟨v,rfl,?_,?_⟩
 . have yC:=k2.set (b:=an ag.next) (fun q=>by
    rcases q.1 with q | q
    . exact dh lI q.1.2
    . rw [dk] at q;omega) (.bc [.int .i64 38,.int .i64 0,.int .i64 a.a,.str s,v] 0 false)
   exact ⟨yC.c7.eW fun b q=>by
    rcases q.1 with q | q
    . exact .inl q.1
    . exact .inr (by omega),al⟩
 . rw [cD];exact (((h_.trans cN).trans e7).set (by omega) _).set lI _
end
end Go.Proofs.YtahfljfikfkpnaaGreatDoor
