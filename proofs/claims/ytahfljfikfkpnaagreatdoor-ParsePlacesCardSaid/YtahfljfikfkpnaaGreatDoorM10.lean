/- The chapter's functions, walked by the abstract machine: plain lemmas, no condition. Printed by a program from longer texts: names made short. -/
import Derived.Test.YtahfljfikfkpnaaGreatDoorM8
import Derived.Test.YtahfljfikfkpnaaGreatDoorM9
set_option linter.unusedSectionVars false
set_option linter.unusedSimpArgs false
set_option linter.unusedVariables false
set_option maxHeartbeats 64000000
noncomputable section
namespace Go.Proofs.YtahfljfikfkpnaaGreatDoor
section
open Go bf
section
variable (k n a:Int) (s:List UInt8) (l:List aR)
theorem ajE:(aR.mk k n a s l).k=k:=rfl
theorem ajG:(aR.mk k n a s l).n=n:=rfl
theorem ajD:(aR.mk k n a s l).a=a:=rfl
theorem ajH:(aR.mk k n a s l).s=s:=rfl
theorem ajF:(aR.mk k n a s l).l=l:=rfl
end
set_option linter.defProp false in
def dd:=And.intro @ajE<|And.intro @ajG<|And.intro @ajD<|And.intro @ajH @ajF
abbrev vcs (p:aR) (v:V):List V:=[.int .i64 p.k,.int .i64 p.n,.int .i64 p.a,.str p.s,v]
abbrev er:List V:=[.int .i64 0,.int .i64 0,.int .i64 0,.str [],.cn]
structure ee (F:aN->Prop) (h:ae) (p:aR) (v:V):Prop where
 e6:e1 F h 5 (p.l.map aR.enc) v
 str:p.s.length<=top
abbrev Fr (B:Nat):aN->Prop:=fun b=>B<=cM b
section
variable {F ew:aN->Prop} {B hS aO n:Nat} {h ab:ae} {p:aR} {v:V}
theorem ee.cs (A:ee F h p v):dX F h p.enc (vcs p v):=by rw [GF];exact .i (.i (.i (.s A.str (A.e6.cons .nil))))
theorem ee.ext (A:ee F h p v) (e:Ext h ab):ee F ab p v:=⟨A.e6.ext e,A.str⟩
theorem ee.fQ (A:ee F h p v) (w:∀b,F b->ew b):ee ew h p v:=⟨A.e6.fQ w,A.str⟩
theorem ee.eA (A:ee (Fr B) h p v) (cU:hS<=B):ee (Fr hS) h p v:=A.fQ fun b q=>aqn cU q
theorem ee.cA (A:ee F h p v):ee (fun b=>F b/\Old h b) h p v:=by have c:=A.cs.cA;rw [GF] at c;obtain ⟨_,aM,c⟩:=c.int;cases aM;obtain ⟨_,aM,c⟩:=c.int;cases aM;obtain ⟨_,aM,c⟩:=c.int;cases aM;obtain ⟨_,aM,az,c⟩:=c.str;cases aM;obtain ⟨_,_,aM,c,_⟩:=c.e6;cases aM;exact ⟨c,A.str⟩
theorem ee.mod (A:ee (Fr B) h p v) (m:Mod (cb aO) h ab) (aq:aO<B):ee (Fr B) ab p v:=⟨A.e6.mod m fun b q _=>⟨fun z=>by rw [show b=aE aO from z] at q;unfold Fr at q;rw [dj] at q;omega,q⟩,A.str⟩
theorem ee.set (A:ee F h p v) {b:aN} (ah:¬F b) (k:cz):ee F (h.set b k) p v:=⟨A.e6.set ah k,A.str⟩
theorem ee.box (A:ee (Fr B) h p v) (aL:n<B) (k:cz):ee (Fr B) (h.set (aE n) k) p v:=A.set (fun q=>by unfold Fr at q;rw [dj] at q;omega) k
theorem ee.one (A:ee F h p v):v.one=true/\v.cells=[v]/\v.hK=true:=A.e6.one
theorem jQ (F:aN->Prop) (h:ae) (k n a:Int) {s:List UInt8} (az:s.length<=top):ee F h (.mk k n a s []) .cn:=⟨e1.nil _ _ _,az⟩
end
theorem uo {F:aN->Prop} {h:ae} (k:Int) {a b:aR} {dB jl:V} (A:ee F h a dB) (wq:ee F h b jl):
 e9 Tryz.prog 106 [.int .i64 k,.agg (vcs a dB),.agg (vcs b jl)] h fun x ab=>∃v,x=.agg (vcs (two k a b) v)/\ee (fun b=>(F b/\Old h b)\/h.next<=cM b) ab (two k a b) v/\Ext h ab:=by
 refine Z1.z rfl (dw ?_);unfold Qg;have x6:=A.one;have qi:=wq.one;obtain ⟨U,an,aM,bA⟩:=gd h (vcs a dB);obtain ⟨ad,av,bh,g'⟩:=gd U (vcs b jl);obtain ⟨aC,aH,cu,fT⟩:=gd ad er;have rB:=aM.trans (bh.trans cu)
 let G:aN->Prop:=fun b=>(F b/\Old h b)\/b=aE aC.next
 obtain ⟨aX,bP,dA,L⟩:=LQ (F:=G) (h:=aC) (size:=5) rfl rfl ((A.cs.cA.fQ fun b q=>.inl q).ext rB) ((wq.cs.cA.fQ fun b q=>.inl q).ext rB) (.inr rfl);have wj:=bA.ext (bh.trans cu);have Az:=g'.ext cu;have qA:=fT.ext dA;simp only [vcs,er,aqP,aq5] at an av aH bP wj Az qA;simp only [x6.1,x6.2.1,x6.2.2,qi.1,qi.2.1,qi.2.2,an,av,aH,bP,wj.g,Az.g,qA.g,bx,↓ag,ak,simprocAttr];have lZ:=(aM.trans bh).next
 have n3:=rB.next
 have xP:=fT.lt;refine ⟨_,rfl,⟨(L.set (fun q=>?_) _).fQ fun b q=>?_,aqZ _⟩,(rB.trans dA).set lZ _⟩
 . rcases q with q | q
   . exact dh lZ q.2
   . rw [ns] at q;omega
 . rcases q with q | q
   . exact .inl q
   . exact .inr (by rw [q,dj];omega)
theorem Mz {F:aN->Prop} {h:ae} (s:List UInt8) (az:s.length<=top) {a b:aR} {dB jl:V} (A:ee F h a dB) (wq:ee F h b jl):
 e9 Tryz.prog 209 [.str s,.agg (vcs a dB),.agg (vcs b jl)] h fun x ab=>∃v,x=.agg (vcs (pv s a b) v)/\ee (fun b=>(F b/\Old h b)\/h.next<=cM b) ab (pv s a b) v/\Ext h ab:=by
 refine aao.z rfl (dw ?_);unfold QO;have x6:=A.one;have qi:=wq.one;obtain ⟨U,an,aM,bA⟩:=gd h (vcs a dB);obtain ⟨ad,av,bh,g'⟩:=gd U (vcs b jl);obtain ⟨aC,aH,cu,fT⟩:=gd ad er;have rB:=aM.trans (bh.trans cu);have n3:=rB.next
 have lZ:=(aM.trans bh).next
 have wj:=bA.ext (bh.trans cu);have Az:=g'.ext cu;have xP:=fT.lt;simp only [vcs,er] at an av aH wj Az fT;simp only [x6.1,x6.2.1,x6.2.2,qi.1,qi.2.1,qi.2.2,an,av,aH,wj.g,Az.g,fT.g,↓ag,ak,simprocAttr];refine cT (uo 38 (A.cA.ext rB) (wq.cA.ext rB)) ?_;rintro x aX ⟨v,rfl,A1,dA⟩;have n4:=dA.next
 have hf:=A1.one;obtain ⟨bF,cE,eY,jn⟩:=fw aX er (vcs (two 38 a b) v);have sU:=A1.cA.ext eY;obtain ⟨bR,dG⟩:∃bR,bR=bF.set (aE aX.next) (.bz [.int .i64 38,.int .i64 0,.int .i64 a.a,.str s,v] 0 false):=⟨_,rfl⟩;have sH:=jn.put [.int .i64 38,.int .i64 0,.int .i64 a.a,.str s,v];rw [<-dG] at sH;have qA:=(fT.ext (dA.trans eY)).set (m:=aX.next) (by omega) (.bz [.int .i64 38,.int .i64 0,.int .i64 a.a,.str s,v] 0 false);rw [<-dG] at qA;have Pk:=sU.set (b:=aE aX.next) (fun q=>dh (aqh _) q.2) (.bz [.int .i64 38,.int .i64 0,.int .i64 a.a,.str s,v] 0 false);rw [<-dG] at Pk;simp only [vcs,er,two,dd] at cE jn;have f42:(aX.next=ad.next)=False:=aqx (by omega);simp only [vcs,two,dd,f42,hf.1,hf.2.1,hf.2.2,cE,jn.g,<-dG,sH.g,qA.g,bx,↓ag,ak,simprocAttr];refine ⟨v,rfl,?_,?_⟩
 . have DT:=Pk.set (b:=aE ad.next) (fun q=>by
    rcases q.1 with q | q
    . exact dh lZ q.1.2
    . rw [dj] at q;omega) (.bz [.int .i64 38,.int .i64 0,.int .i64 a.a,.str s,v] 0 false)
   exact ⟨DT.e6.fQ fun b q=>by
    rcases q.1 with q | q
    . exact .inl q.1
    . exact .inr (by omega),az⟩
 . rw [dG];exact (((rB.trans dA).trans eY).set (by omega) _).set lZ _
end
end Go.Proofs.YtahfljfikfkpnaaGreatDoor
