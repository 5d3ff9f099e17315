/- The chapter's functions, walked by the abstract machine: plain lemmas, no condition. Printed by a program from longer texts: names made short. -/
import Derived.Test.YtahfljfikfkpnaaGreatDoorM10
import Derived.Test.YtahfljfikfkpnaaGreatDoorM11
set_option linter.unusedSectionVars false
set_option linter.unusedSimpArgs false
set_option linter.unusedVariables false
set_option maxHeartbeats 64000000
noncomputable section
namespace Go.Proofs.YtahfljfikfkpnaaGreatDoor
section
open Go ba
section
variable (k n a:Int) (s:List UInt8) (l:List aP)
theorem ag6:(aP.mk k n a s l).k=k:=rfl
theorem ag8:(aP.mk k n a s l).n=n:=rfl
theorem ag5:(aP.mk k n a s l).a=a:=rfl
theorem ag9:(aP.mk k n a s l).s=s:=rfl
theorem ag7:(aP.mk k n a s l).l=l:=rfl
end
set_option linter.defProp false in
def bR:=And.intro @ag6<|And.intro @ag8<|And.intro @ag5<|And.intro @ag9 @ag7
abbrev vcs (p:aP) (v:V):List V:=[.int .i64 p.k,.int .i64 p.n,.int .i64 p.a,.str p.s,v]
abbrev b8:List V:=[.int .i64 0,.int .i64 0,.int .i64 0,.str [],.cL]
structure dt (F:aN->Prop) (h:ah) (p:aP) (v:V):Prop where
 c':e_ F h 5 (p.l.map aP.enc) v
 str:p.s.length<=top
abbrev Fr (B:Nat):aN->Prop:=fun b=>B<=dP b
section
variable {F eX:aN->Prop} {B h7 ak n:Nat} {h ae:ah} {p:aP} {v:V}
theorem dt.cs (A:dt F h p v):ev F h p.enc (vcs p v):=by rw [Ft];exact .i (.i (.i (.s A.str (A.c'.cons .nil))))
theorem dt.ext (A:dt F h p v) (e:Ext h ae):dt F ae p v:=⟨A.c'.ext e,A.str⟩
theorem dt.eU (A:dt F h p v) (w:∀b,F b->eX b):dt eX h p v:=⟨A.c'.eU w,A.str⟩
theorem dt.cP (A:dt (Fr B) h p v) (cd:h7<=B):dt (Fr h7) h p v:=A.eU fun b q=>aoF cd q
theorem dt.cu (A:dt F h p v):dt (fun b=>F b/\Old h b) h p v:=by have c:=A.cs.cu;rw [Ft] at c;obtain ⟨_,aO,c⟩:=c.int;cases aO;obtain ⟨_,aO,c⟩:=c.int;cases aO;obtain ⟨_,aO,c⟩:=c.int;cases aO;obtain ⟨_,aO,al,c⟩:=c.str;cases aO;obtain ⟨_,_,aO,c,_⟩:=c.c';cases aO;exact ⟨c,A.str⟩
theorem dt.mod (A:dt (Fr B) h p v) (m:Mod (b3 ak) h ae) (ax:ak<B):dt (Fr B) ae p v:=⟨A.c'.mod m fun b q _=>⟨fun z=>by rw [show b=ao ak from z] at q;unfold Fr at q;rw [dh] at q;omega,q⟩,A.str⟩
theorem dt.set (A:dt F h p v) {b:aN} (ai:¬F b) (k:c_):dt F (h.set b k) p v:=⟨A.c'.set ai k,A.str⟩
theorem dt.box (A:dt (Fr B) h p v) (aI:n<B) (k:c_):dt (Fr B) (h.set (ao n) k) p v:=A.set (fun q=>by unfold Fr at q;rw [dh] at q;omega) k
theorem dt.one (A:dt F h p v):v.one=true/\v.cells=[v]/\v.hO=true:=A.c'.one
theorem iR (F:aN->Prop) (h:ah) (k n a:Int) {s:List UInt8} (al:s.length<=top):dt F h (.mk k n a s []) .cL:=⟨e_.nil _ _ _,al⟩
end
theorem uy {F:aN->Prop} {h:ah} (k:Int) {a b:aP} {b4 eK:V} (A:dt F h a b4) (sV:dt F h b eK):
 dY Tryz.prog 106 [.int .i64 k,.agg (vcs a b4),.agg (vcs b eK)] h fun x ae=>∃v,x=.agg (vcs (two k a b) v)/\dt (fun b=>(F b/\Old h b)\/h.next<=dP b) ae (two k a b) v/\Ext h ae:=by
 refine WO.z rfl (cm ?_);unfold ME;have da:=A.one;have qK:=sV.one;obtain ⟨ad,an,aO,bz⟩:=fS h (vcs a b4);obtain ⟨ag,av,bs,fu⟩:=fS ad (vcs b eK);obtain ⟨ar,aB,cT,fj⟩:=fS ag b8;have h6:=aO.trans (bs.trans cT)
 let G:aN->Prop:=fun b=>(F b/\Old h b)\/b=ao ar.next
 obtain ⟨aT,bt,cO,L⟩:=xx (F:=G) (h:=ar) (size:=5) rfl rfl ((A.cs.cu.eU fun b q=>.inl q).ext h6) ((sV.cs.cu.eU fun b q=>.inl q).ext h6) (.inr rfl);have p7:=bz.ext (bs.trans cT);have ym:=fu.ext cT;have Ar:=fj.ext cO;simp only [vcs,b8,aoW,ao5] at an av aB bt p7 ym Ar;simp only [da.1,da.2.1,da.2.2,qK.1,qK.2.1,qK.2.2,an,av,aB,bt,p7.g,ym.g,Ar.g,aX,↓aa,ab,simprocAttr];have lE:=(aO.trans bs).next
 have n3:=h6.next
 have Cj:=fj.lt;refine ⟨_,rfl,⟨(L.set (fun q=>?_) _).eU fun b q=>?_,aoQ _⟩,(h6.trans cO).set lE _⟩
 . rcases q with q | q
   . exact dj lE q.2
   . rw [lJ] at q;omega
 . rcases q with q | q
   . exact .inl q
   . exact .inr (by rw [q,dh];omega)
theorem J5 {F:aN->Prop} {h:ah} (s:List UInt8) (al:s.length<=top) {a b:aP} {b4 eK:V} (A:dt F h a b4) (sV:dt F h b eK):
 dY Tryz.prog 209 [.str s,.agg (vcs a b4),.agg (vcs b eK)] h fun x ae=>∃v,x=.agg (vcs (p2 s a b) v)/\dt (fun b=>(F b/\Old h b)\/h.next<=dP b) ae (p2 s a b) v/\Ext h ae:=by
 refine XD.z rfl (cm ?_);unfold No;have da:=A.one;have qK:=sV.one;obtain ⟨ad,an,aO,bz⟩:=fS h (vcs a b4);obtain ⟨ag,av,bs,fu⟩:=fS ad (vcs b eK);obtain ⟨ar,aB,cT,fj⟩:=fS ag b8;have h6:=aO.trans (bs.trans cT);have n3:=h6.next
 have lE:=(aO.trans bs).next
 have p7:=bz.ext (bs.trans cT);have ym:=fu.ext cT;have Cj:=fj.lt;simp only [vcs,b8] at an av aB p7 ym fj;simp only [da.1,da.2.1,da.2.2,qK.1,qK.2.1,qK.2.2,an,av,aB,p7.g,ym.g,fj.g,↓aa,ab,simprocAttr];refine aY (uy 38 (A.cu.ext h6) (sV.cu.ext h6)) ?_;rintro x aT ⟨v,rfl,rZ,cO⟩;have n4:=cO.next
 have c4:=rZ.one;obtain ⟨bE,ca,e7,iB⟩:=fz aT b8 (vcs (two 38 a b) v);have jZ:=rZ.cu.ext e7;obtain ⟨bA,cx⟩:∃bA,bA=bE.set (ao aT.next) (.bd [.int .i64 38,.int .i64 0,.int .i64 a.a,.str s,v] 0 false):=⟨_,rfl⟩;have kh:=iB.put [.int .i64 38,.int .i64 0,.int .i64 a.a,.str s,v];rw [<-cx] at kh;have Ar:=(fj.ext (cO.trans e7)).set (m:=aT.next) (by omega) (.bd [.int .i64 38,.int .i64 0,.int .i64 a.a,.str s,v] 0 false);rw [<-cx] at Ar;have kW:=jZ.set (b:=ao aT.next) (fun q=>dj (aoz _) q.2) (.bd [.int .i64 38,.int .i64 0,.int .i64 a.a,.str s,v] 0 false);rw [<-cx] at kW;simp only [vcs,b8,two,bR] at ca iB;have f42:(aT.next=ag.next)=False:=aoV (by omega);simp only [vcs,two,bR,f42,c4.1,c4.2.1,c4.2.2,ca,iB.g,<-cx,kh.g,Ar.g,aX,↓aa,ab,simprocAttr];refine ⟨v,rfl,?_,?_⟩
 . have yx:=kW.set (b:=ao ag.next) (fun q=>by
    rcases q.1 with q | q
    . exact dj lE q.1.2
    . rw [dh] at q;omega) (.bd [.int .i64 38,.int .i64 0,.int .i64 a.a,.str s,v] 0 false)
   exact ⟨yx.c'.eU fun b q=>by
    rcases q.1 with q | q
    . exact .inl q.1
    . exact .inr (by omega),al⟩
 . rw [cx];exact (((h6.trans cO).trans e7).set (by omega) _).set lE _
end
end Go.Proofs.YtahfljfikfkpnaaGreatDoor
