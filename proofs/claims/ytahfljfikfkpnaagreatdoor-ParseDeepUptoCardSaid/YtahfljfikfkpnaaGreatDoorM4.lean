/- The abstract machine and its walks (a verified interpreter of the model's code: plain definitions and lemmas, no condition). Printed by a program from longer texts: names made short. -/
import Derived.Test.YtahfljfikfkpnaaGreatDoorM3
import Derived.Carry
import Derived.OpenShut
import Derived.ChangeSame
import Derived.Lib.Bytealg
import Derived.Lib.IndexMore
import Derived.Handed
import Derived.HandedShaped
import Derived.ChangeArms
import Derived.DataReads
import Derived.ChangeBears
set_option linter.unusedSectionVars false
set_option linter.unusedSimpArgs false
set_option linter.unusedVariables false
set_option maxHeartbeats 64000000
noncomputable section
namespace Go.Proofs.YtahfljfikfkpnaaGreatDoor.ba
section
open Go Go.RowKit
variable [Lay]
structure Mod (M:aN->Prop) (h ae:ah):Prop where
 next:h.next<=ae.next
 get:∀b,Old h b->¬M b->ae.get b=h.get b
theorem Mod.refl (M:aN->Prop) (h:ah):Mod M h h:=⟨aoz _,fun _ _ _=>rfl⟩
theorem Mod.cu {M:aN->Prop} {h ae:ah} (e:Mod M h ae) {b:aN} (ai:Old h b):Old ae b:=apP ai e.next
theorem Mod.trans {M:aN->Prop} {h ae tp:ah} (e:Mod M h ae) (fi:Mod M ae tp):Mod M h tp:=
 ⟨aoF e.next fi.next,fun b ai hm=>(fi.get b (e.cu ai) hm).trans (e.get b ai hm)⟩
theorem Mod.mono {M LQ:aN->Prop} {h ae:ah} (e:Mod M h ae) (hm:∀b,Old h b->M b->LQ b):Mod LQ h ae:=
 ⟨e.next,fun b ai aI=>e.get b ai fun q=>aI (hm b ai q)⟩
theorem Mod.new {M:aN->Prop} {h ae:ah} (e:Mod M h ae) (k:c_):Mod M h (ae.new k):=
 ⟨Nat.le_succ_of_le e.next,fun b ai hm=>by rw [k2,aoI (fun q=>(J1 (h:=h) ai e.next) ▸ q)];exact e.get b ai hm⟩
theorem Mod.set {M:aN->Prop} {h ae:ah} (e:Mod M h ae) {b:aN} (ai:Old h b->M b) (k:c_):Mod M h (ae.set b k):=
 ⟨e.next,fun ck iA hm=>by
   rw [ey];by_cases q:b=ck
   . subst q;exact absurd (ai iA) hm
   . rw [aoI q];exact e.get ck iA hm⟩
theorem Ext.mod {h ae:ah} (e:Ext h ae) (M:aN->Prop):Mod M h ae:=⟨e.next,fun b ai _=>e.get b ai⟩
theorem Ext.kL {h ae tp:ah} (e:Ext h ae) {M:aN->Prop} (m:Mod M ae tp) (hm:∀b,M b->h.next<=dP b):Ext h tp:=
 ⟨aoF e.next m.next,fun b ai=>by
   have oh:¬M b:=fun q=>by have:=hm b q;unfold Old at ai;omega
   exact (m.get b (e.cu ai) oh).trans (e.get b ai)⟩
theorem Mod.at {M:aN->Prop} {h ae:ah} (e:Mod M h ae) {b:aN} {off:Nat} {aj:List V} (H:lR h b off aj) (hm:¬M b):lR ae b off aj:=by obtain ⟨aM,us,ad,ag,ar⟩:=H;refine ⟨e.cu aM,us,?_,ag,ar⟩;unfold mi at ad ⊢;rw [e.get b aM hm];exact ad
theorem jP {h:ah} {i:Nat} (aJ:i<h.next):Old h (ao i):=by unfold Old;rw [dh];exact aJ
theorem xH {h:ah} {b:aN} {i:Nat} (ai:Old h b) (aJ:h.next<=i):(b=ao i)=False:=by apply aoV;intro e;unfold Old at ai;rw [e,dh] at ai;omega
def V.bp:V->aN->Prop
 | .slice b _ _ _,ck=>ck=b
 | .gp b _ _ _,ck=>ck=b
 | _,_=>False
theorem hi.one {h:ah} {size:Nat} {v:V} {n:Nat} {aj:List V} (H:hi h size v n aj):v.one=true/\v.cells=[v]/\v.hO=true:=by have q:=H.2;cases v<;>simp only at q<;>first | exact ⟨rfl,rfl,rfl⟩ | exact q.elim
theorem hi.mod {M:aN->Prop} {h ae:ah} (e:Mod M h ae) {size:Nat} {v:V} {n:Nat} {aj:List V} (H:hi h size v n aj) (hm:∀b,v.bp b->¬M b):hi ae size v n aj:=by refine ⟨H.1,?_⟩;have eY:=H.2;cases v<;>simp only at eY ⊢<;>first | exact eY | exact ⟨eY.1,e.at eY.2 (hm _ rfl)⟩
theorem hi.cu {h:ah} {size:Nat} {v:V} {n:Nat} {aj:List V} (H:hi h size v n aj) {b:aN} (ai:v.bp b):Old h b:=by have eY:=H.2;cases v<;>simp only [V.bp] at eY ai<;>first | (exact ai.elim) | (subst ai;exact eY.2.1)
def dA (B:Nat) (h:ah) (size:Nat) (v:V) (n:Nat) (aj:List V):Prop:=
 aj.length=n * size/\match v with
  | .cL=>n=0
  | .slice b off len cap=>len=n/\B<=dP b/\Old h b/\n<=cap/\cap<=top/\∃us dw st,h.get b=.bd us dw st/\off+cap * size<=us.length/\(us.drop off).take aj.length=aj
  | .gp b off len idx=>len=n/\B<=dP b/\Old h b/\off=0/\idx=0/\∃us st,h.get b=.bd us size st/\aj.length<=us.length/\us.take aj.length=aj
  | _=>False
theorem dA.v {B:Nat} {h:ah} {size:Nat} {v:V} {n:Nat} {aj:List V} (H:dA B h size v n aj):hi h size v n aj:=by
 obtain ⟨ad,ag⟩:=H;refine ⟨ad,?_⟩;cases v<;>simp only at ag ⊢<;>first | exact ag | skip
 . obtain ⟨an,_,av,aB,_,us,dw,st,bt,ca,cx⟩:=ag;refine ⟨an,av,us,.inr ⟨dw,st,bt⟩,?_,cx⟩;rw [ad];have:=apj size aB;omega
 . obtain ⟨an,_,av,aB,_,us,st,bt,ca,cx⟩:=ag;subst aB;exact ⟨an,av,us,.inr ⟨size,st,bt⟩,by omega,by simpa using cx⟩
theorem dA.base {B:Nat} {h:ah} {size:Nat} {v:V} {n:Nat} {aj:List V} (H:dA B h size v n aj) {b:aN} (ai:v.bp b):B<=dP b:=by have eY:=H.2;cases v<;>simp only [V.bp] at eY ai<;>first | (exact ai.elim) | (subst ai;exact eY.2.1)
theorem dA.mono {B h7:Nat} {h:ah} {size:Nat} {v:V} {n:Nat} {aj:List V} (H:dA B h size v n aj) (cd:h7<=B):dA h7 h size v n aj:=by refine ⟨H.1,?_⟩;have eY:=H.2;cases v<;>simp only at eY ⊢<;>first | exact eY | exact ⟨eY.1,aoF cd eY.2.1,eY.2.2⟩
theorem dA.mod {M:aN->Prop} {h ae:ah} (e:Mod M h ae) {B size:Nat} {v:V} {n:Nat} {aj:List V} (H:dA B h size v n aj) (hm:∀b,v.bp b->¬M b):dA B ae size v n aj:=by
 refine ⟨H.1,?_⟩;have eY:=H.2;cases v<;>simp only at eY ⊢<;>first | exact eY | skip
 . obtain ⟨an,av,aB,bt,ca,us,dw,st,cx,dq⟩:=eY;exact ⟨an,av,e.cu aB,bt,ca,us,dw,st,by rw [e.get _ aB (hm _ rfl)];exact cx,dq⟩
 . obtain ⟨an,av,aB,bt,ca,us,st,cx,dq⟩:=eY;exact ⟨an,av,e.cu aB,bt,ca,us,st,by rw [e.get _ aB (hm _ rfl)];exact cx,dq⟩
theorem dA.ext {h ae:ah} (e:Ext h ae) {B size:Nat} {v:V} {n:Nat} {aj:List V} (H:dA B h size v n aj):dA B ae size v n aj:=
 H.mod (e.mod fun _=>False) fun _ _ q=>q
theorem agC {h:ah} {size:Nat} {v:V} {n:Nat} {aj:List V} (H:hi h size v n aj):pT v=some n:=by
 have eY:=H.2;cases v<;>simp only at eY<;>first
  | (rw [<-eY.1];rfl)
  | (subst eY;rfl)
  | (exact eY.elim)
theorem C3 {h:ah} {b:aN} {off size n:Nat} {aj:List V} (H:lR h b off aj) (aG:aj.length=n * size):qX h size b off n=some aj:=by obtain ⟨_,us,ad,ag,ar⟩:=H;unfold qX;rw [ad.qU,show Nat.ble (off+n * size) us.length=true from by rw [aoT];omega,Ed us _ off (by omega),<-aG,ar];rfl
theorem alb {h:ah} {size:Nat} {v:V} {n:Nat} {aj:List V} (H:hi h size v n aj):uq h size v n=some aj:=by
 obtain ⟨ad,ag⟩:=H;cases v<;>simp only at ag<;>first
  | (exact ag.elim)
  | (obtain ⟨_,ar⟩:=ag;exact C3 ar ad)
  | (subst ag
     have:aj=[]:=apo (by omega);subst this;rfl)
theorem dA.grown {B:Nat} {h:ah} {size:Nat} {aj:List V} {n:Nat} {st:Bool} (aG:aj.length=n * size) (cd:B<=h.next):dA B (h.new (.bd aj size st)) size (.gp (ao h.next) 0 n 0) n aj:=
 ⟨aG,rfl,by rw [dh];exact cd,RO,rfl,rfl,aj,st,sf _,aoz _,aqb⟩
theorem VN {h:ah} {size:Nat} {s x:V} {m:Nat} {aj:List V} (eY:hi h size x m aj) (hm:m<=top):kj size s x h=(match s with
 | .cL=>uY size m aj h
 | .slice b off len cap=>uX size b off len cap m aj h
 | .gp b off len idx=>uW size b off len idx m aj h
 | _=>.fail):=by
 unfold kj;rw [agC eY];simp only;rw [alb eY];simp only;rw [show Nat.ble m top=true from by rw [aoT];exact hm];rfl
theorem S7 (A:List V) (o:Nat) (W:List V) (h:o+W.length<=A.length) (q:Nat):(jU A o W)[q]? =if q<o then A[q]? else if q<o+W.length then W[q-o]? else A[q]? :=by
 have aG:(A.take o).length=o:=by rw [apX];omega
 unfold jU;rw [api];by_cases cf:q<o
 . rw [aoN cf,apb (by omega),apt cf]
 . rw [aoI cf,apf (by omega),aG];by_cases c6:q<o+W.length
   . rw [aoN c6,apb (by omega)]
   . rw [aoI c6,apf (by omega),apD];congr 1;omega
theorem S8 (A:List V) (o j:Nat) (L W:List V) (mr:o+L.length<=A.length) (gL:(A.drop o).take L.length=L) (cW:j+W.length<=L.length):((jU A (o+j) W).drop o).take L.length=jU L j W:=by
 apply List.ext_getElem?;intro q;have aG:((A.drop o).take L.length)[q]? =L[q]? :=by rw [gL]
 rw [S7 L j W cW];by_cases aH:q<L.length
 . rw [apt aH,apD,S7 A (o+j) W (by omega)];rw [apt aH,apD] at aG;by_cases cf:q<j
   . rw [aoN (by omega),aoN cf,aG]
   . rw [aoI (by omega),aoI cf];by_cases c6:q<j+W.length
     . rw [aoN (by omega),aoN c6];congr 1;omega
     . rw [aoI (by omega),aoI c6,aG]
 . rw [List.getElem?_take_eq_none (by omega),aoI (by omega),aoI (by omega),ao3 (by omega)]
theorem Md {B:Nat} {h:ah} {size:Nat} {s x:V} {n m:Nat} {us aj:List V} (dH:1<=size) (H1:dA B h size s n us) (eY:hi h size x m aj) (cd:B<=h.next) (hlen:(n+m) * size<=top) (bG:gV aj=true):
 ∃v ae,kj size s x h=.val v ae/\dA B ae size v (n+m) (us++aj)/\Mod s.bp h ae/\∀b,v.bp b->s.bp b\/h.next<=dP b:=by
 have oh:n+m<=top:=aoF (Nat.le_mul_of_pos_right _ dH) hlen;have jJ:=H1.1;have k7:=eY.1;have hG:(us++aj).length=(n+m) * size:=by rw [aoL,jJ,k7,apl]
 rw [VN eY (by omega)];have ag:=H1.2;cases s<;>simp only at ag ⊢<;>try (exact ag.elim)
 case cL=>
  subst ag;have:us=[]:=apo (by omega);subst this;unfold uY;by_cases hm:m=0
  . subst hm;have:aj=[]:=apo (by omega);subst this;exact ⟨.cL,h,rfl,⟨by simp,rfl⟩,Mod.refl _ _,fun b ai=>.inl ai⟩
  . rw [show Nat.beq m 0=false from by rw [<-Bool.not_eq_true,ao8];exact hm];simp only [aoP];rw [zO (by rw [k7];simpa using hlen) dH];refine ⟨_,_,rfl,?_,(Mod.refl _ _).new _,fun b ai=>.inr (by rw [show b=ao h.next from ai,dh];exact aoz _)⟩;have:=dA.grown (B:=B) (h:=h) (size:=size) (aj:=aj) (n:=m) (st:=false) k7 cd;simpa using this
 case slice b off len cap=>
  obtain ⟨rfl,av,aB,bt,ca,iS,dw,st,cx,dq,dy⟩:=ag;unfold uX;by_cases ax:len+m<=cap
  . rw [show Nat.ble (len+m) cap=true from by rw [aoT];exact ax];simp only [aoJ];have ga:off+len * size+aj.length<=iS.length:=by
     have:=apj size ax;rw [apl] at this;rw [k7];omega
    rw [Own.lay (aj:=iS) (dw:=dw) (st:=st) cx ga bG];refine ⟨_,_,rfl,⟨hG,rfl,av,aB,ax,ca,_,dw,st,ey _ _ _ |>.trans (aoN rfl),?_,?_⟩,(Mod.refl (V.bp (.slice b off len cap)) h).set (fun _=>rfl) _,fun ck ai=>.inl ai⟩
    . rw [rQ _ _ _ ga];exact dq
    . rw [aoL];unfold jU;have hx:off+us.length<=iS.length:=by rw [jJ];omega
      have aO:iS.take (off+len * size)=iS.take off++us:=by rw [<-jJ,List.take_add,dy]
      rw [aO,api,api,List.drop_append,ao_ (by rw [apX];omega),ao5];rw [show off - (iS.take off).length=0 from by rw [apX];omega,apm];rw [<-List.append_assoc,aqh (by rw [aoL])]
  . rw [show Nat.ble (len+m) cap=false from by rw [<-Bool.not_eq_true,aoT];exact ax];simp only [aoP];rw [show (Nat.ble (len+m) top&&Nat.ble cap top)=true from by simp only [aoE,aoT];exact ⟨oh,ca⟩];simp only [aoJ];have wX:lR h b off us:=⟨aB,iS,.inr ⟨dw,st,cx⟩,by rw [jJ];have:=apj size bt;omega,dy⟩;rw [C3 wX jJ];simp only;rw [zO (by rw [hG];exact hlen) dH];exact ⟨_,_,rfl,dA.grown hG cd,(Mod.refl _ _).new _,fun b ai=>.inr (by rw [show b=ao h.next from ai,dh];exact aoz _)⟩
 case gp b off len idx=>
  obtain ⟨rfl,av,aB,rfl,rfl,iS,st,cx,dq,dy⟩:=ag;unfold uW;by_cases hm:m=0
  . subst hm;have:aj=[]:=apo (by omega);subst this;exact ⟨_,h,rfl,⟨hG,rfl,av,aB,rfl,rfl,iS,st,cx,by simpa using dq,by simpa using dy⟩,Mod.refl _ _,fun b ai=>.inl ai⟩
  . rw [show Nat.beq m 0=false from by rw [<-Bool.not_eq_true,ao8];exact hm];simp only [aoP];rw [cx];simp only [c_.bd,c_.on];rw [show (Nat.beq size size&&(Nat.ble (len+m) top&&gV aj)&&Nat.beq 0 (0 * size))=true from by
     simp only [aoE,ao8,aoT]
     exact ⟨⟨trivial,oh,bG⟩,by omega⟩]
    simp only [aoJ];have wX:lR h b 0 us:=⟨aB,iS,.inr ⟨size,st,cx⟩,by omega,by simpa using dy⟩;rw [C3 wX jJ];simp only;rw [zO (by rw [hG];exact hlen) dH];exact ⟨_,_,rfl,dA.grown (h:=h.set b .dead) hG cd,((Mod.refl (V.bp (.gp b 0 len 0)) h).set (fun _=>rfl) _).new _,fun ck ai=>.inr (by rw [show ck=ao h.next from ai,dh];exact aoz _)⟩
theorem dA.put {B:Nat} {h:ah} {size:Nat} {v:V} {n:Nat} {aj:List V} (H:dA B h size v n aj) {i:Nat} (aJ:i<n) {k:IntKind} {y:V} (bl:y.cells.length=size) (bG:gV y.cells=true):
 ∃b off ae,j9 size v (.int k i)=some (.ptr b (off+i * size))/\v.bp b/\qY size h (.ptr b (off+i * size)) y=some ae/\dA B ae size v n (jU aj (i * size) y.cells)/\Mod v.bp h ae:=by
 obtain ⟨ad,ag⟩:=H;have a7:i * size+size<=n * size:=by have:=apj size (show i+1<=n from aJ);rw [apl] at this;omega
 cases v<;>simp only at ag<;>try (first | omega | exact ag.elim)
 case slice b off len cap=>
  obtain ⟨rfl,av,aB,bt,ca,iS,dw,st,cx,dq,dy⟩:=ag;have ax:=apj size bt;have ga:off+i * size+y.cells.length<=iS.length:=by rw [bl];omega
  refine ⟨b,off,_,?_,rfl,Own.store (aj:=iS) (dw:=dw) (st:=st) cx bl (by rw [bl] at ga;exact ga) bG,⟨?_,rfl,av,aB,bt,ca,_,dw,st,ey _ _ _ |>.trans (aoN rfl),?_,?_⟩,(Mod.refl (V.bp (.slice b off len cap)) h).set (fun _=>rfl) _⟩
  . rw [Jl,aoN (by omega)];simp
  . rw [rQ _ _ _ (by rw [bl,ad];omega)];exact ad
  . rw [rQ _ _ _ ga];exact dq
  . rw [rQ _ _ _ (by rw [bl,ad];omega)];exact S8 iS off (i * size) aj y.cells (by rw [ad];omega) dy (by rw [bl,ad];omega)
 case gp b off len idx=>
  obtain ⟨rfl,av,aB,rfl,rfl,iS,st,cx,dq,dy⟩:=ag;have ga:i * size+y.cells.length<=aj.length:=by rw [bl,ad];omega
  have B2:0+i * size+y.cells.length<=iS.length:=by omega
  refine ⟨b,0,_,?_,rfl,Own.store (aj:=iS) (dw:=size) (st:=st) cx bl (by rw [bl] at B2;exact B2) bG,⟨?_,rfl,av,aB,rfl,rfl,_,st,ey _ _ _ |>.trans (aoN rfl),?_,?_⟩,(Mod.refl (V.bp (.gp b 0 len 0)) h).set (fun _=>rfl) _⟩
  . rw [Jk,aoN (by omega)];simp
  . rw [rQ _ _ _ ga];exact ad
  . rw [rQ _ _ _ ga,rQ _ _ _ B2];exact dq
  . rw [rQ _ _ _ ga];have:=S8 iS 0 (i * size) aj y.cells (by omega) (by simpa using dy) ga;simpa using this
theorem aix (r:a1):aZ.opt r none=none:=(rfl)
theorem aiy (r:a1) (x:aZ):aZ.opt r (some x)=some (x.aV r):=(rfl)
theorem Ms (d y:Nat):bound none d y=some d:=rfl
theorem ahw (b:aN) (o:Nat):vC (.ptr b o)=some (.ptr b o):=rfl
theorem aha (k b0:IntKind) (a b:Int):mF (fun b a=>!Int.leB a b) [.int k a,.int b0 b]=some (.int k (if b<a then b else a)):=by
 simp only [mF,xZ,V.fK,sA];by_cases h:b<a
 . rw [aoN h];have:¬a<=b:=by omega
   simp [this]
 . rw [aoI h];have:a<=b:=by omega
   simp [this]
theorem JL (k b0:IntKind) (a b:Int):mF (fun b a=>!Int.leB b a) [.int k a,.int b0 b]=some (.int k (if a<b then b else a)):=by
 simp only [mF,xZ,V.fK,sA];by_cases h:a<b
 . rw [aoN h];have:¬b<=a:=by omega
   simp [this]
 . rw [aoI h];have:b<=a:=by omega
   simp [this]
theorem lR.cell {h:ah} {b:aN} {off:Nat} {aj:List V} (H:lR h b off aj) {i j n:Nat} {ws:List V} (hw:(aj.drop i).take n=ws) (aJ:i+n<=aj.length) (cW:j<n):gv (h.get b) (off+i+j)=ws[j]? :=by rw [apw,H.kJ (by omega),<-hw,apt cW,apD,aoB]
end
section
open Go Go.RowKit Go.ChangeShapes Go.WideShapes
variable [Lay]
section
variable {H:Type} {enc:TypeId × Value->H} {P:Program}
end
end
section
open Go Go.RowKit
variable [Lay]
theorem bD.below {aA:Fr} {E:Env} {h:ah} {w w':World} (s:bD aA E h w) (ai:Below w.heap.size w w'):bD aA E h w':=by
 have dH:aA.w.heap.size<=w.heap.size:=s.frame.size;have hX:∀(k:Nat) (o:Obj),w.heap[k]? =some o->w'.heap[k]? =some o:=by
  intro k o aD;rw [ai.block k,aD];by_cases a7:k<w.heap.size
  . exact a7
  . rw [apU (by omega)] at aD;cases aD
 refine ⟨fun b aF=>?_,s.rL,s.inj,s.fresh,s.frame.trans (ai.mono dH),s.laid,s.base⟩;have:=s.bp b aF;cases aD:h.get b<;>rw [aD] at this<;>simp only [jh] at this ⊢
 . obtain ⟨an,p,c,el,cK,av,aB,bt,ca⟩:=this;exact ⟨an,p,c,el,cK,av,aB,hX _ _ bt,ca⟩
 . obtain ⟨an,p,c,el,cK,av,aB,bt,ca⟩:=this;exact ⟨an,p,c,el,cK,av,aB,hX _ _ bt,ca⟩
 . obtain ⟨p,an,av,aB,bt⟩:=this;exact ⟨p,an,av,aB,hX _ _ bt⟩
 . obtain ⟨p,a,an,av,aB,bt⟩:=this;exact ⟨p,a,an,av,hX _ _ aB,bt⟩
 . obtain ⟨p,o,an,av,aB,bt⟩:=this;exact ⟨p,o,an,av,hX _ _ aB,bt⟩
 . obtain ⟨p,an,av,aB⟩:=this;exact ⟨p,an,av,hX _ _ aB⟩
 . obtain ⟨p,a,c,l,an,av,aB,bt⟩:=this;exact ⟨p,a,c,l,an,av,hX _ _ aB,bt⟩
 . obtain ⟨p,m,a,an,av,aB,bt,ca⟩:=this;exact ⟨p,m,a,an,av,aB,hX _ _ bt,ca⟩
def sQ (E:Env) (h:ah) (p:kB):Env:=fun b=>if b=ao h.next then some p else E b
theorem TK (E:Env) (h:ah) (p:kB):sQ E h p (ao h.next)=some p:=aoN rfl
theorem Lg {aA:Fr} {E:Env} {h:ah} {w:World} (s:bD aA E h w) (p:kB):E.le (sQ E h p):=fun b q aH=>by unfold sQ;rw [aoI (fun e=>by rw [e,s.fresh _ (aoz _)] at aH;cases aH)];exact aH
theorem ak2 {W:World} {E:Env} {h:ah} (s:bD ⟨W,fun _=>none⟩ E h W) (p:kB) (k:c_) (bG:k.own=false) (aD:jh W.heap.size (sQ E h p) W (ao h.next) k):
 bD ⟨W,fun _=>none⟩ (sQ E h p) (h.new k) W:=by
 refine ⟨fun b _=>?_,fun _ _ h=>(by cases h),fun b ck q gg ad ag aO bs aH=>?_,fun i aJ=>?_,s.frame,s.laid,fun b q n cs st ad aO=>by
  rw [k2] at ad;by_cases cf:ao h.next=b
  . rw [aoN cf] at ad;rw [ad] at bG;cases bG
  . rw [aoI cf] at ad;unfold sQ at aO;rw [aoI (fun e=>cf e.symm)] at aO;exact s.base _ _ _ _ _ ad aO⟩
 . rw [k2];by_cases e:ao h.next=b
   . subst e;rw [aoN rfl];exact aD
   . rw [aoI e];exact (s.bp b rfl).mono (Lg s p)
 . rw [k2] at ad ag;by_cases cf:ao h.next=b
   . rw [aoN cf,bG] at ad;cases ad
   . by_cases c6:ao h.next=ck
     . rw [aoN c6,bG] at ag;cases ag
     . rw [aoI cf] at ad;rw [aoI c6] at ag;unfold sQ at aO bs;rw [aoI (fun e=>cf e.symm)] at aO;rw [aoI (fun e=>c6 e.symm)] at bs;exact s.inj b ck q gg ad ag aO bs aH
 . rw [ig] at aJ;unfold sQ;rw [aoI (fun e=>by have:=nR e;omega)];exact s.fresh i (by omega)
theorem ak3 {W:World} {E:Env} {h:ah} (s:bD ⟨W,fun _=>none⟩ E h W) {k base cap:Nat} {c:Array Value} {el:TypeId} {cK:Nat × Nat} (aD:W.heap[k]? =some (.cells c el cK)) {aj:List V}
 (ax:base+aj.length<=c.size) (U:∀i v y,aj[i]? =some v->c[base+i]? =some y->Rel E v y):
 bD ⟨W,fun _=>none⟩ (sQ E h ⟨k,base,cap⟩) (h.new (.ro aj)) W:=by
 refine ak2 s _ _ rfl ?_;have a7:k<W.heap.size:=by
  by_cases a7:k<W.heap.size
  . exact a7
  . rw [apU (by omega)] at aD;cases aD
 refine ⟨trivial,⟨k,base,cap⟩,c,el,cK,TK _ _ _,a7,aD,ax,fun i y aJ bl=>?_⟩;have:T.get .bad (ao i) (hJ .e 0 aj)=aj[i]:=by have:=HY aj 0 i .e;rw [aph] at this;rw [this,aoN aJ,aoB aJ];rfl
 rw [this];exact Rel.mono (Lg s _) _ _ (U i _ y (aoB aJ) bl)
end
section
open Go Go.RowKit
variable [Lay]
section
variable (P:Program)
def An:List Field->Nat->Option Nat
 | [],o=>some o
 | f::dn,o=>if f.offset=o then An dn (o+P.cellsOf f.type) else none
def x_:Bool:=(List.range P.types.size).all fun t=>match P.underlying t with
 | some (.struct dn)=>decide (An P dn.toList 0=some (P.cellsOf t))
 | _=>true
def fk (h:ah):Nat->Nat->TypeId->List V->Prop
 | 0,_,_,_=>False
 | n+1,m,t,aj=>match P.underlying t with
   | some .bool=>∃b,aj=[.bool b]
   | some (.int k)=>∃i,aj=[.int k i]/\(Lit.int k i).wf=true
   | some .string=>∃s:List UInt8,aj=[.str s]/\s.length+1<=m
   | some (.slice e)=>1<=m/\(aj=[.cL]\/(∃b i j k,aj=[.kz b i j k])\/P.cellsOf e=0\/
      ∃b len cap,aj=[.slice b 0 len cap]/\0<len/\len<=cap/\Old h b/\∃us,mi h b us/\us.length=len * P.cellsOf e/\∃ms:List Nat,ms.length=len/\ms.sum+1<=m/\
       ∀(i k:Nat),ms[i]? =some k->1<=k/\fk h n k e ((us.drop (i * P.cellsOf e)).take (P.cellsOf e)))
   | some (.struct dn)=>aj.length=P.cellsOf t/\∃ms:List Nat,ms.length=dn.toList.length/\ms.sum+1<=m/\∀(i:Nat) (f:Field) (k:Nat),dn.toList[i]? =some f->ms[i]? =some k->1<=k/\fk h n k f.type ((aj.drop f.offset).take (P.cellsOf f.type))
   | some (.pointer e)=>1<=m/\(aj=[.qI]\/P.cellsOf e=0\/∃b,aj=[.ptr b 0]/\Old h b/\∃us,mi h b us/\us.length=P.cellsOf e/\∃k,k+1<=m/\fk h n k e us)
   | some (.map _ _)=>aj=[.qH]\/aj=[.bad]
   | some (.interface _)=>aj=[.nilIface]\/aj=[.bad]
   | _=>True
end
theorem fk.ext {P:Program} {h ae:ah} (e:Ext h ae):∀(n m:Nat) (t:TypeId) (aj:List V),fk P h n m t aj->fk P ae n m t aj
 | 0,_,_,_,H=>H
 | n+1,m,t,aj,H=>by
   unfold fk at H ⊢
   split at H<;>try exact H
   . refine ⟨H.1,?_⟩;rcases H.2 with H | H | H | ⟨b,len,cap,ad,ag,ar,bE,us,c8,dJ,ms,gU,fl,iZ⟩
     . exact .inl H
     . exact .inr (.inl H)
     . exact .inr (.inr (.inl H))
     . exact .inr (.inr (.inr ⟨b,len,cap,ad,ag,ar,e.cu bE,us,e.rd bE c8,dJ,ms,gU,fl,fun i k aD=>⟨(iZ i k aD).1,fk.ext e n _ _ _ (iZ i k aD).2⟩⟩))
   . obtain ⟨ad,ms,ag,ar,aT⟩:=H;exact ⟨ad,ms,ag,ar,fun i f k aE aD=>⟨(aT i f k aE aD).1,fk.ext e n _ _ _ (aT i f k aE aD).2⟩⟩
   . refine ⟨H.1,?_⟩;rcases H.2 with H | H | ⟨b,ad,bE,us,c8,dJ,k,gU,fl⟩
     . exact .inl H
     . exact .inr (.inl H)
     . exact .inr (.inr ⟨b,ad,e.cu bE,us,e.rd bE c8,dJ,k,gU,fk.ext e n _ _ _ fl⟩)
mutual
def hE {H:Type}:DataW H->Nat
 | .lit (.string bytes)=>bytes.length+1
 | .lit _=>1
 | .nil=>1
 | .ptr d=>hE d+1
 | .slice elems spare=>n1 elems+n1 spare+1
 | .agg parts=>n1 parts+1
 | .iface _ d=>hE d+1
 | .map entries=>DF entries+1
 | .held _=>1
def n1 {H:Type}:List (DataW H)->Nat
 | []=>0
 | d::r=>hE d+n1 r
def DF {H:Type}:List (Lit × DataW H)->Nat
 | []=>0
 | x::r=>G5 x+DF r
def G5 {H:Type}:Lit × DataW H->Nat
 | (.string bytes,d)=>bytes.length+hE d+1
 | (_,d)=>hE d+1
end
theorem te {H:Type} (d:DataW H):1<=hE d:=by
 cases d with
 | lit l=>cases l<;>simp [hE]
 | _=>simp [hE]
theorem G4 {H:Type}:∀l:List (DataW H),n1 l=(l.map hE).sum
 | []=>by simp [n1]
 | d::r=>by simp only [n1,ap9,List.sum_cons,G4 r]
theorem DM {w:World} {base:Nat} {a:Addr} {n:Nat} {l:List Value} (h:w.cells? base a n=some l):l.length=n/\∀i,i<n->w.cell? (a.add i)=l[i]? :=by
 unfold World.cells? at h
 split at h
 . exact ⟨by simpa using mapM_some_length h,fun i aJ=>mapM_some_get h i i (by simp [aJ])⟩
 . cases h
theorem SH {E aw:Env} (he:E.le aw) {aj:List V} {l:List Value} (H:bH E aj l):bH aw aj l:=bH.mono he aj l H
section
variable {H:Type} {enc:TypeId × Value->H} {P:Program} {W:World} {base:Nat} {sp:Nat->Bool} {held:Bool}
def Lays (P:Program) (W:World) (n m:Nat) (t:TypeId) (cs:List Value):Prop:=
 ∀(E:Env) (h:ah),bD ⟨W,fun _=>none⟩ E h W->∃aw ae aj,E.le aw/\Ext h ae/\bD ⟨W,fun _=>none⟩ aw ae W/\bH aw aj cs/\aj.length=cs.length/\fk P ae n m t aj
theorem Q2 (n size:Nat) (e:TypeId):∀(pieces:List (List Value)) (ms:List Nat),ms.length=pieces.length->(∀(i:Nat) (l:List Value) (k:Nat),pieces[i]? =some l->ms[i]? =some k->l.length=size/\Lays P W n k e l)->
 ∀(E:Env) (h:ah),bD ⟨W,fun _=>none⟩ E h W->∃aw ae us,E.le aw/\Ext h ae/\bD ⟨W,fun _=>none⟩ aw ae W/\bH aw us pieces.flatten/\us.length=pieces.length * size/\
  ∀(i k:Nat),ms[i]? =some k->fk P ae n k e ((us.drop (i * size)).take size)
 | [],[],_,_,E,h,s=>⟨E,h,[],fun _ _ q=>q,Ext.refl h,s,rfl,by simp,fun i k aJ=>by simp at aJ⟩
 | [],_::_,aG,_,_,_,_=>by simp at aG
 | _::_,[],aG,_,_,_,_=>by simp at aG
 | l::ls,m::ms,l3,aF,E,h,s=>by
   obtain ⟨aG,H⟩:=aF 0 l m rfl rfl;obtain ⟨kA,ad,aj,cN,a2,a3,a4,a5,nA⟩:=H E h s;obtain ⟨bY,ag,us,bT,c2,h9,oP,pD,tc⟩:=Q2 n size e ls ms (by simpa using l3) (fun i l k an av=>aF (i+1) l k (by simpa using an) (by simpa using av)) kA ad a3;refine ⟨bY,ag,aj++us,cN.trans bT,a2.trans c2,h9,?_,?_,?_⟩
   . rw [apI];exact bH.append (SH bT a4) oP
   . rw [aoL,pD,a5,aG,aoH,apl];omega
   . intro i k aJ;cases i with
     | zero=>
       rw [Nat.zero_mul,apm,aqh (by rw [a5,aG])];simp only [aoR,aoC] at aJ;subst aJ;exact fk.ext c2 _ _ _ _ nA
     | succ i=>
       rw [apl,Nat.one_mul,Nat.add_comm,<-List.drop_drop,List.drop_left' (by rw [a5,aG])];exact tc i k (by simpa using aJ)
theorem Q1 (n:Nat):∀(dn:List Field) (ms:List Nat) (o dV:Nat) (cs:List Value),An P dn o=some dV->cs.length=dV->ms.length=dn.length->(∀(i:Nat) (f:Field) (k:Nat),dn[i]? =some f->ms[i]? =some k->Lays P W n k f.type ((cs.drop f.offset).take (P.cellsOf f.type)))->
 o<=dV/\∀(E:Env) (h:ah),bD ⟨W,fun _=>none⟩ E h W->∃aw ae aj,E.le aw/\Ext h ae/\bD ⟨W,fun _=>none⟩ aw ae W/\bH aw aj (cs.drop o)/\aj.length=dV-o/\
  ∀(i:Nat) (f:Field) (k:Nat),dn[i]? =some f->ms[i]? =some k->o<=f.offset/\fk P ae n k f.type ((aj.drop (f.offset-o)).take (P.cellsOf f.type))
 | [],_::_,_,_,_,_,_,l3,_=>by simp at l3
 | _::_,[],_,_,_,_,_,l3,_=>by simp at l3
 | [],[],o,dV,cs,az,aG,_,_=>by simp only [An,aoC] at az;subst az;refine ⟨aoz _,fun E h s=>⟨E,h,[],fun _ _ q=>q,Ext.refl h,s,?_,by simp,fun i f k aE=>by simp at aE⟩⟩;rw [ao_ (by omega)];rfl
 | f::dn,m::ms,o,dV,cs,az,aG,l3,aF=>by
   simp only [An] at az;by_cases aE:f.offset=o
   . rw [aoN aE] at az;obtain ⟨g1,g2⟩:=Q1 n dn ms (o+P.cellsOf f.type) dV cs az aG (by simpa using l3) (fun i f k an av=>aF (i+1) f k (by simpa using an) (by simpa using av));refine ⟨by omega,fun E h s=>?_⟩;have IY:=aF 0 f m rfl rfl;obtain ⟨kA,ad,aj,cN,a2,a3,a4,a5,nA⟩:=IY E h s;obtain ⟨bY,ag,us,bT,c2,h9,oP,pD,tc⟩:=g2 kA ad a3;have B9:aj.length=P.cellsOf f.type:=by rw [a5,apX,aoZ,aE];omega
     refine ⟨bY,ag,aj++us,cN.trans bT,a2.trans c2,h9,?_,?_,?_⟩
     . have e:cs.drop o=(cs.drop f.offset).take (P.cellsOf f.type)++cs.drop (o+P.cellsOf f.type):=by
        rw [aE,<-List.drop_drop,ap6]
       rw [e];exact bH.append (SH bT a4) oP
     . rw [aoL,B9,pD];omega
     . intro i g k ay aD;cases i with
       | zero=>
         simp only [aoR,aoC] at ay aD;subst ay aD;refine ⟨by omega,?_⟩;rw [aE,apY,apm,aqh B9];exact fk.ext c2 _ _ _ _ nA
       | succ i=>
         obtain ⟨cf,c6⟩:=tc i g k (by simpa using ay) (by simpa using aD);refine ⟨by omega,?_⟩;rw [show g.offset-o=P.cellsOf f.type + (g.offset - (o+P.cellsOf f.type)) from by omega,<-List.drop_drop,List.drop_left' B9];exact c6
   . rw [aoI aE] at az;cases az
theorem Ot {w:World} {a:Addr} {y:Value} (h:w.cell? a=some y):a.spot=none/\∃c el cK,w.heap[a.block]? =some (.cells c el cK)/\c[a.off]? =some y:=by
 refine ⟨World.cell?_spot h,?_⟩;unfold World.cell? at h
 split at h
 . rename_i c el cK bP
   split at h
   . cases h
   . exact ⟨c,el,cK,bP,h⟩
 . cases h
theorem VE (a:Addr) (n:Nat):(a.add n).block=a.block:=by unfold Addr.add;split<;>rfl
theorem VF (a:Addr) (n:Nat):(a.add n).off=a.off+n:=by unfold Addr.add;split<;>simp_all
theorem akv {w:World} {a:Addr} {l:List Value} (aM:0<l.length) (h:∀i,i<l.length->w.cell? (a.add i)=l[i]?):
 a.spot=none/\∃c el cK,w.heap[a.block]? =some (.cells c el cK)/\a.off+l.length<=c.size/\∀i,i<l.length->c[a.off+i]? =l[i]? :=by
 have Ih:w.cell? (a.add 0)=some l[0]:=by rw [h 0 aM];exact aoB aM
 obtain ⟨s1,c,el,cK,s2,SW⟩:=Ot Ih;have ej:a.add 0=a:=by unfold Addr.add;simp
 rw [ej] at s1 s2 SW;have key:∀i,i<l.length->c[a.off+i]? =l[i]? :=by intro i aJ;have q:=h i aJ;rw [aoB aJ] at q ⊢;obtain ⟨_,eV,ani,anj,t2,t3⟩:=Ot q;rw [VE,s2] at t2;rw [VF] at t3;simp only [aoC,Obj.cells.injEq] at t2;obtain ⟨rfl,_,_⟩:=t2;exact t3
 refine ⟨s1,c,el,cK,s2,?_,key⟩;have:=key (l.length-1) (by omega);rw [aoB (by omega)] at this;have a7:=(aoD.1 this).1;omega
theorem TL {E:Env} {h:ah} (s:bD ⟨W,fun _=>none⟩ E h W) {a:Addr} {cap:Nat} {l:List Value} (aM:0<l.length) (ax:∀i,i<l.length->W.cell? (a.add i)=l[i]?) {us:List V} (U:bH E us l):
 ∃aw ae b,E.le aw/\Ext h ae/\bD ⟨W,fun _=>none⟩ aw ae W/\Old ae b/\a.spot=none/\aw b=some ⟨a.block,a.off,cap⟩/\mi ae b us:=by
 obtain ⟨s1,c,el,cK,s2,SW,KT⟩:=akv aM ax;have EL:us.length=l.length:=(bH.length U).symm;refine ⟨sQ E h ⟨a.block,a.off,cap⟩,h.new (.ro us),ao h.next,Lg s _,(Ext.refl h).new _,ak3 s s2 (by omega) fun i v y bZ bl=>?_,RO,s1,TK _ _ _,.inl (sf _)⟩;have aJ:i<l.length:=by have:=(apk.1 bZ).1;omega
 rw [KT i aJ] at bl;obtain ⟨q0,aO,bs⟩:=bH.get U i v bZ;rw [bl] at aO;simp only [aoC] at aO;rw [aO];exact bs
theorem Pt {α:Type} (size:Nat):∀(pieces:List (List α)) (i j:Nat),(∀l ∈ pieces,l.length=size)->i<pieces.length->j<size->pieces.flatten[i * size+j]? =(pieces[i]?).bind (·[j]?)
 | [],i,j,_,aJ,_=>by simp at aJ
 | l::ls,i,j,aF,aJ,cW=>by
   have aG:l.length=size:=aF l (by simp);cases i with
   | zero=>
     rw [Nat.zero_mul,aph,apI,apb (by omega)];simp
   | succ i=>
     rw [apI,apf (by rw [aG,apl];omega)];rw [show (i+1) * size+j-l.length=i * size+j from by rw [aG,apl];omega];rw [Pt size ls i j (fun l aG=>aF l (by simp [aG])) (by simpa using aJ) cW];simp
theorem Pv {α:Type} (size:Nat):∀(pieces:List (List α)),(∀l ∈ pieces,l.length=size)->pieces.flatten.length=pieces.length * size
 | [],_=>by simp
 | l::ls,aF=>by rw [apI,aoL,Pv size ls (fun l aG=>aF l (by simp [aG])),aF l (by simp),aoH,apl];omega
theorem Sd {α:Type} (R:Nat->α->Prop):∀(len:Nat),(∀i,i<len->∃l,R i l)->∃bK:List α,bK.length=len/\∀i l,bK[i]? =some l->R i l
 | 0,_=>⟨[],rfl,fun i l q=>by simp at q⟩
 | m+1,h=>by
   obtain ⟨bK,an,av⟩:=Sd R m (fun i aJ=>h i (by omega));obtain ⟨l,ad⟩:=h m (by omega);refine ⟨bK++[l],by simp [an],fun i eC j3=>?_⟩;by_cases aJ:i<bK.length
   . rw [apb aJ] at j3;exact av i eC j3
   . rw [apf (by omega)] at j3;have ej:i-bK.length=0:=by
      by_cases q:i-bK.length=0
      . exact q
      . rw [ao3 (by simp;omega)] at j3;cases j3
     rw [ej] at j3;simp at j3;subst j3;obtain rfl:i=m:=by omega
     exact ad
theorem EZ (eb:x_ P=true) (gL:laidOutB P=true):∀(n:Nat) (t:TypeId) (cs:List Value) (x:DataW H × List MemPlace),t<P.types.size->DataW.trod enc P W base sp held n t cs=some x->Lays P W n (hE x.1) t cs
 | 0,t,cs,x,_,h=>by simp [DataW.trod] at h
 | n+1,t,cs,x,a7,h=>by
   have DA:∀(cs:List Value),(∀ae aj,aj.length=cs.length->fk P ae (n+1) (hE x.1) t aj)->Lays P W (n+1) (hE x.1) t cs:=by
    intro cs H E h s;refine ⟨E,h,cs.map fun _=>.bad,fun _ _ q=>q,Ext.refl h,s,?_,by simp,H _ _ (by simp)⟩;clear H
    induction cs with
    | nil=>rfl
    | cons c cs cc=>exact ⟨c,cs,rfl,by simp [Rel],cc⟩
   cases hu:P.underlying t with
   | none=>
     refine DA cs fun ae aj _=>?_;simp only [fk,hu]
   | some u=>
     cases u with
     | bool=>
       obtain ⟨b,rfl,_⟩:=DataW.trod_bool hu h;intro E h s;exact ⟨E,h,[.bool b],fun _ _ q=>q,Ext.refl h,s,⟨_,_,rfl,rfl,rfl⟩,rfl,by simp only [fk,hu];exact ⟨b,rfl⟩⟩
     | int k=>
       obtain ⟨i,rfl,_,hw⟩:=DataW.trod_int hu h;intro E h s;exact ⟨E,h,[.int k i],fun _ _ q=>q,Ext.refl h,s,⟨_,_,rfl,rfl,rfl⟩,rfl,by simp only [fk,hu];exact ⟨i,rfl,hw⟩⟩
     | string=>
       obtain ⟨b,rfl,rfl,_⟩:=DataW.trod_string hu h;intro E h s;exact ⟨E,h,[.str b.data.toList],fun _ _ q=>q,Ext.refl h,s,⟨_,_,rfl,rfl,rfl⟩,rfl,by simp only [fk,hu,hE];exact ⟨_,rfl,aoz _⟩⟩
     | struct dn=>
       obtain ⟨xs,mC,aI,rfl,aG,zr,aE⟩:=DataW.trod_struct hu h;obtain rfl:n=mC:=by omega
       have adK:An P dn.toList 0=some (P.cellsOf t):=by unfold x_ at eb;rw [ao9] at eb;have:=eb t (ap_.2 a7);rw [hu] at this;exact of_decide_eq_true this
       have tu:∀(i:Nat) (f:Field) (k:Nat),dn.toList[i]? =some f->(xs.map fun x=>hE x.1)[i]? =some k->Lays P W n k f.type ((cs.drop f.offset).take (P.cellsOf f.type)):=by
        intro i f k aJ aD;have Iu:f ∈ dn.toList:=apJ aJ;have w7:dn[i]? =some f:=by simpa using aJ
        have:=aE i f w7;have Qb:i<xs.length:=by rw [zr];exact (aoD.1 w7).1
        rw [aoB Qb] at this;rw [apg,aoB Qb,apu,aoC] at aD;subst aD;exact EZ eb gL n _ _ _ ((kid_struct gL a7 hu).1 f Iu) this
       intro E h s;obtain ⟨_,g⟩:=Q1 n dn.toList (xs.map fun x=>hE x.1) 0 _ cs adK aG (by simp [zr]) tu;obtain ⟨aw,ae,aj,cN,a2,a3,a4,a5,nA⟩:=g E h s;refine ⟨aw,ae,aj,cN,a2,a3,by simpa using a4,by rw [a5,aG];omega,?_⟩;simp only [fk,hu];refine ⟨by omega,xs.map fun x=>hE x.1,by simp [zr],?_,fun i f k Iu aD=>⟨?_,by simpa using (nA i f k Iu aD).2⟩⟩
       . simp only [hE,G4,List.map_map];exact aoz _
       . rw [apg,Option.map_eq_some_iff] at aD;obtain ⟨y,_,rfl⟩:=aD;exact te _
     | slice e=>
       rcases DataW.trod_slice hu h with ⟨rfl,rfl⟩ | ⟨a,len,cap,elems,rest,mC,aI,rfl,rfl,ai,tE,_,P3,acH,_,_⟩
       . intro E h s;exact ⟨E,h,[.cL],fun _ _ q=>q,Ext.refl h,s,⟨_,_,rfl,rfl,rfl⟩,rfl,by simp only [fk,hu];exact ⟨te _,.inl trivial⟩⟩
       . obtain rfl:n=mC:=by omega
         by_cases al:P.cellsOf e=0
         . refine DA _ fun ae aj _=>?_;simp only [fk,hu];exact ⟨te _,.inr (.inr (.inl al))⟩
         by_cases tC:len=0
         . subst tC;intro E h s;refine ⟨E,h,[.kz .z 0 0 0],fun _ _ q=>q,Ext.refl h,s,⟨_,_,rfl,?_,rfl⟩,rfl,by simp only [fk,hu];exact ⟨te _,.inr (.inl ⟨_,_,_,_,rfl⟩)⟩⟩;simp only [Rel];exact ⟨_,_,rfl⟩
         . -- its elements
           have oj:∀i,i<len->∃l,W.cells? base (a.add (i * P.cellsOf e)) (P.cellsOf e)=some l/\∀k:Nat,(elems.map fun x=>hE x.1)[i]? =some k->Lays P W n k e l:=by intro i aJ;have:=acH i aJ;rw [aoB (by omega)] at this;rw [Option.bind_eq_some_iff] at this;obtain ⟨l,ad,ag⟩:=this;refine ⟨l,ad,fun k aD=>?_⟩;rw [apg,aoB (by omega),apu,aoC] at aD;subst aD;exact EZ eb gL n _ _ _ (kid_slice gL a7 hu) ag
           obtain ⟨pieces,j6,h1⟩:∃pieces:List (List Value),pieces.length=len/\∀i (l:List Value),pieces[i]? =some l->W.cells? base (a.add (i * P.cellsOf e)) (P.cellsOf e)=some l/\∀k:Nat,(elems.map fun x=>hE x.1)[i]? =some k->Lays P W n k e l:=by exact Sd (fun i l=>W.cells? base (a.add (i * P.cellsOf e)) (P.cellsOf e)=some l/\∀k:Nat,(elems.map fun x=>hE x.1)[i]? =some k->Lays P W n k e l) len oj
           have j7:∀(i:Nat) (l:List Value) (k:Nat),pieces[i]? =some l->(elems.map fun x=>hE x.1)[i]? =some k->l.length=P.cellsOf e/\Lays P W n k e l:=by intro i l k aJ aD;obtain ⟨an,av⟩:=h1 i l aJ;exact ⟨(DM an).1,av k aD⟩
           have Ql:∀l ∈ pieces,l.length=P.cellsOf e:=by intro l aG;obtain ⟨i,aJ⟩:=List.getElem?_of_mem aG;exact (DM (h1 i l aJ).1).1
           intro E h s;obtain ⟨kA,ad,us,cN,a2,a3,a4,a5,nA⟩:=Q2 n (P.cellsOf e) e pieces (elems.map fun x=>hE x.1) (by simp [P3,j6]) j7 E h s;have tu:=Pv (P.cellsOf e) pieces Ql;have tG:0<len * P.cellsOf e:=Nat.mul_pos (by omega) (by omega);have Ii:∀i,i<pieces.flatten.length->W.cell? (a.add i)=pieces.flatten[i]? :=by
            intro q aH;rw [tu] at aH;have Qg:q % P.cellsOf e<P.cellsOf e:=Nat.mod_lt _ (by omega);have hdiv:q / P.cellsOf e<pieces.length:=Nat.div_lt_of_lt_mul (by rw [Nat.mul_comm];exact aH);have Qo:q / P.cellsOf e * P.cellsOf e+q % P.cellsOf e=q:=by rw [Nat.mul_comm];exact Nat.div_add_mod q _
            rw [<-Qo,Pt (P.cellsOf e) pieces _ _ Ql hdiv Qg,aoB hdiv];obtain ⟨an,_⟩:=h1 _ _ (aoB hdiv);have:=(DM an).2 _ Qg;rw [Option.bind_some,<-this];congr 1;unfold Addr.add;by_cases c0:q / P.cellsOf e * P.cellsOf e=0
            . rw [c0];simp
            . by_cases z2:q % P.cellsOf e=0
              . rw [z2];simp
              . have z3:¬(q / P.cellsOf e * P.cellsOf e+q % P.cellsOf e=0):=by omega
                rw [aoI c0,aoI z2,aoI z3];simp [apw]
           obtain ⟨bY,ag,b,bT,c2,h9,oP,pD,tc,GY⟩:=TL a3 (cap:=cap) (by rw [tu,j6];exact tG) Ii a4;refine ⟨bY,ag,[.slice b 0 len cap],cN.trans bT,a2.trans c2,h9,⟨_,_,rfl,?_,rfl⟩,rfl,?_⟩
           . simp only [Rel];refine ⟨_,tc,tE,?_⟩;obtain ⟨Wt,ahJ,st⟩:=a;simp only at pD;subst pD;rfl
           . simp only [fk,hu];refine ⟨te _,.inr (.inr (.inr ⟨b,len,cap,rfl,by omega,tE,oP,us,GY,by rw [a5,j6],elems.map fun x=>hE x.1,by simp [P3],?_,fun i k aD=>⟨?_,fk.ext c2 _ _ _ _ (nA i k aD)⟩⟩))⟩
             . simp only [hE,G4,List.map_map];exact Nat.add_le_add_right (Nat.le_add_right _ _) 1
             . rw [apg,Option.map_eq_some_iff] at aD;obtain ⟨y,_,rfl⟩:=aD;exact te _
     | pointer e=>
       rcases DataW.trod_pointer hu h with ⟨rfl,rfl⟩ | ⟨a,q6,y,mC,aI,rfl,rfl,ax,bl⟩
       . intro E h s;exact ⟨E,h,[.qI],fun _ _ q=>q,Ext.refl h,s,⟨_,_,rfl,rfl,rfl⟩,rfl,by simp only [fk,hu];exact ⟨te _,.inl trivial⟩⟩
       . obtain rfl:n=mC:=by omega
         by_cases al:P.cellsOf e=0
         . refine DA _ fun ae aj _=>?_;simp only [fk,hu];exact ⟨te _,.inr (.inl al)⟩
         . intro E h s;obtain ⟨an,av⟩:=DM ax;obtain ⟨kA,ad,us,cN,a2,a3,a4,a5,nA⟩:=EZ eb gL n _ _ _ (kid_pointer gL a7 hu) bl E h s;obtain ⟨bY,ag,b,bT,c2,h9,oP,pD,tc,GY⟩:=TL a3 (cap:=0) (by omega) (fun i aJ=>av i (by omega)) a4;refine ⟨bY,ag,[.ptr b 0],cN.trans bT,a2.trans c2,h9,⟨_,_,rfl,?_,rfl⟩,rfl,?_⟩
           . simp only [Rel];refine ⟨_,tc,?_⟩;obtain ⟨Wt,ahJ,st⟩:=a;simp only at pD;subst pD;rfl
           . simp only [fk,hu];exact ⟨te _,.inr (.inr ⟨b,rfl,oP,us,GY,by omega,_,aoz _,fk.ext c2 _ _ _ _ nA⟩)⟩
     | map k e=>
       have jA:cs.length=1:=by
        unfold DataW.trod at h;rw [hu] at h
        split at h<;>simp_all
       intro E h s;refine ⟨E,h,[.bad],fun _ _ q=>q,Ext.refl h,s,?_,by simp [jA],by simp only [fk,hu];exact .inr trivial⟩
       match cs,jA with
       | [c],_=>exact ⟨c,[],rfl,by simp [Rel],rfl⟩
     | interface ms=>
       have jA:cs.length=1:=by
        unfold DataW.trod at h;rw [hu] at h
        split at h<;>simp_all
       intro E h s;refine ⟨E,h,[.bad],fun _ _ q=>q,Ext.refl h,s,?_,by simp [jA],by simp only [fk,hu];exact .inr trivial⟩
       match cs,jA with
       | [c],_=>exact ⟨c,[],rfl,by simp [Rel],rfl⟩
     | _=>
       refine DA cs fun ae aj _=>?_;simp only [fk,hu]
def qg (P:Program) (h:ah) (n m:Nat) (t:TypeId) (v:V):Prop:=
 match P.underlying t with
 | some (.struct _) | some (.array _ _)=>∃aj,v=.agg aj/\fk P h n m t aj
 | _=>fk P h n m t [v]
theorem qg.ext {h ae:ah} (e:Ext h ae) {n m:Nat} {t:TypeId} {v:V} (H:qg P h n m t v):qg P ae n m t v:=by
 unfold qg at H ⊢
 split at H
 . obtain ⟨aj,an,av⟩:=H;exact ⟨aj,an,fk.ext e _ _ _ _ av⟩
 . obtain ⟨aj,an,av⟩:=H;exact ⟨aj,an,fk.ext e _ _ _ _ av⟩
 . exact fk.ext e _ _ _ _ H
theorem agv (eb:x_ P=true) (gL:laidOutB P=true) {r:Reach} {a':Nat} {t:TypeId} {v:Value} {d:DataW H} {p:List MemPlace} (a7:t<P.types.size) (br:Value.okWide P W r a' t v) (bk:DataW.Trod enc P W base sp held t v d p) {E:Env} {h:ah} (s:bD ⟨W,fun _=>none⟩ E h W):
 ∃n aw ae x,E.le aw/\Ext h ae/\bD ⟨W,fun _=>none⟩ aw ae W/\Rel aw x v/\qg P ae n (hE d) t x:=by
 obtain ⟨fuel,aE⟩:=bk;obtain ⟨aw,ae,aj,cN,a2,a3,a4,a5,nA⟩:=EZ eb gL _ _ _ _ a7 aE E h s;have agg:(∃cs,v=.agg cs)->∃x,Rel aw x v/\x=.agg aj:=by rintro ⟨cs,rfl⟩;exact ⟨.agg aj,by simp only [Rel];exact ⟨cs,rfl,a4⟩,rfl⟩
 have one:v.cells=#[v]->∃x,Rel aw x v/\aj=[x]:=by
  intro ax;rw [ax] at a4 a5
  match aj,a4,a5 with
  | [x],⟨y,en,aO,bs,cT⟩,_=>
    simp only [aqi] at aO;exact ⟨x,aO.1 ▸ bs,rfl⟩
 refine ⟨fuel,aw,ae,?_⟩;unfold Value.okWide at br;cases hu:P.underlying t with
 | none=>
   rw [hu] at br;simp only [Cell.okWide,Cell.ok,hu] at br
 | some u=>
   rw [hu] at br;unfold qg;rw [hu];cases u<;>simp only at br ⊢<;>first
    | (obtain ⟨cs,bZ,_⟩:=br
       obtain ⟨x,an,av⟩:=agg ⟨cs,bZ⟩;exact ⟨x,cN,a2,a3,an,aj,av,nA⟩)
    | (have ax:v.cells=#[v]:=by
        cases v<;>first
         | rfl
         | (simp only [Cell.okWide,Cell.ok,hu] at br)
       obtain ⟨x,an,av⟩:=one ax;exact ⟨x,cN,a2,a3,an,av ▸ nA⟩)
def pA (P:Program) (h:ah):Nat->List TypeId->List V->Prop
 | _,[],[]=>True
 | m,t::dE,v::aj=>∃k b0,k+b0<=m/\(∃n,qg P h n k t v)/\pA P h b0 dE aj
 | _,_,_=>False
theorem pA.mono {h:ah}:∀{m dx:Nat} {dE:List TypeId} {aj:List V},m<=dx->pA P h m dE aj->pA P h dx dE aj
 | _,_,[],[],_,H=>by unfold pA;trivial
 | _,_,[],_::_,_,H=>H.elim
 | _,_,_::_,[],_,H=>H.elim
 | _,_,_::_,_::_,hm,⟨k,b0,aD,H,ki⟩=>⟨k,b0,aoF aD hm,H,ki⟩
theorem Q0 (eb:x_ P=true) (gL:laidOutB P=true) {r:Reach} {a':Nat}:∀{dE:List TypeId} {aj:List Value} {ds:List (DataW H)} {p:List MemPlace},(∀t ∈ dE,t<P.types.size)->(∀(j:Nat) t v,dE[j]? =some t->aj[j]? =some v->Value.okWide P W r a' t v)->
 DataW.TrodAll enc P W base sp held dE aj ds p->∀{E:Env} {h:ah},bD ⟨W,fun _=>none⟩ E h W->∃aw ae xs,E.le aw/\Ext h ae/\bD ⟨W,fun _=>none⟩ aw ae W/\bH aw xs aj/\pA P ae (n1 ds) dE xs
 | [],[],ds,p,_,_,_,E,h,s=>⟨E,h,[],fun _ _ q=>q,Ext.refl h,s,rfl,by unfold pA;trivial⟩
 | [],_::_,ds,p,_,_,bk,E,h,s=>by cases ds<;>exact bk.elim
 | _::_,[],ds,p,_,_,bk,E,h,s=>by cases ds<;>exact bk.elim
 | _::_,_::_,[],p,_,_,bk,E,h,s=>bk.elim
 | t::dE,v::aj,d::ds,p,az,bZ,⟨cg,cY,ad,ag,_⟩,E,h,s=>by obtain ⟨n,kA,g1,x,cN,a2,a3,a4,a5⟩:=agv eb gL (az t (by simp)) (bZ 0 t v rfl rfl) ad s;obtain ⟨bY,g2,xs,bT,c2,h9,oP,pD⟩:=Q0 eb gL (fun t q=>az t (by simp [q])) (fun j t v an av=>bZ (j+1) t v (by simpa using an) (by simpa using av)) ag a3;exact ⟨bY,g2,x::xs,cN.trans bT,a2.trans c2,h9,⟨_,_,rfl,Rel.mono bT _ _ a4,oP⟩,hE d,n1 ds,by simp only [n1];exact aoz _,⟨n,a5.ext c2⟩,pD⟩
theorem YT (eb:x_ P=true) (gL:laidOutB P=true) {r:Reach} {a':Nat} {f:FuncId} {dE:List TypeId} {aj:List Value} {ds:List (DataW H)} {p:List MemPlace} (gu:∀t ∈ dE,t<P.types.size) (bZ:∀(j:Nat) t v,dE[j]? =some t->aj[j]? =some v->Value.okWide P W r a' t v)
 (bk:DataW.TrodAll enc P W base sp held dE aj ds p) (qo:Lay.ok W) (cQ:hh P) (ai:∃fn,P.funcs[f]? =some fn/\fn.body.isSome=true) (ax:∀(h:ah) (xs:List V),pA P h (n1 ds) dE xs->dY P f xs h fun y _=>y=.bool true):
 Calls P f aj.toArray W fun e w'=>e=.returned (.bool true)/\Below W.heap.size W w':=by
 obtain ⟨E,h,xs,_,_,a3,a4,a5⟩:=Q0 eb gL gu bZ bk (ak1 W qo);obtain ⟨y,ae,rl,rfl⟩:=ax h xs a5;refine (rl.calls cQ ai _ E W aj a4 a3).mono fun e w' q=>?_;obtain ⟨aw,x,rfl,_,av,aB⟩:=q;simp only [Rel] at av;subst av;exact ⟨rfl,aB.frame⟩
end
end
section
open Go Go.RowKit
variable [Lay]
theorem collect {α:Type} (enc:α->List V) (size:Nat) (Q:α->Prop):∀(len:Nat) (us:List V),us.length=len * size->(∀i,i<len->∃a,(us.drop (i * size)).take size=enc a/\Q a)->
 ∃r0:List α,r0.length=len/\us=r0.flatMap enc/\∀a ∈ r0,Q a
 | 0,us,aG,_=>⟨[],rfl,by simpa using aG,fun a h=>by simp at h⟩
 | len+1,us,aG,h=>by
   obtain ⟨a,ad,ag⟩:=h 0 (by omega);rw [apl,Nat.one_mul] at aG;obtain ⟨r0,g1,g2,g3⟩:=collect enc size Q len (us.drop size) (by rw [aoZ];omega) (fun i aJ=>by obtain ⟨b,c8,dJ⟩:=h (i+1) (by omega);refine ⟨b,?_,dJ⟩;rw [apv,<-c8,apl,Nat.one_mul,Nat.add_comm]);refine ⟨a::r0,by simp [g1],?_,fun b ai=>?_⟩
   . rw [List.flatMap_cons,<-g2,<-ad,Nat.zero_mul,apm,ap6]
   . rcases ao7.1 ai with rfl | ai
     . exact ag
     . exact g3 b ai
section
variable {P:Program} {h:ah} {n m:Nat} {t:TypeId}
theorem fk.pos {aj:List V} (H:fk P h n m t aj):∃k,n=k+1:=by
 cases n with
 | zero=>exact H.elim
 | succ m=>exact ⟨m,rfl⟩
theorem fk.int {aj:List V} {k:IntKind} (H:fk P h n m t aj) (hu:P.underlying t=some (.int k)):∃i,aj=[.int k i]/\(Lit.int k i).wf=true:=by obtain ⟨m,rfl⟩:=H.pos;simpa only [fk,hu] using H
def CZ (v:V):Prop:=∀b off l c,v=.slice b off l c->l<=c
def Dw (h:ah) (size:Nat) (v:V) (len m:Nat) (Q:Nat->List V->Prop):Prop:=
 v.one=true/\v.cells=[v]/\v.hO=true/\k' v=some (.int .i64 len)/\CZ v/\∃(us:List V) (ms:List Nat),hi h size v len us/\ms.length=len/\ms.sum+1<=m/\∀(i k:Nat),ms[i]? =some k->1<=k/\Q k ((us.drop (i * size)).take size)
theorem fk.slice {aj:List V} {e:TypeId} (H:fk P h n m t aj) (hu:P.underlying t=some (.slice e)) (al:P.cellsOf e≠0):∃mC v len,n=mC+1/\aj=[v]/\Dw h (P.cellsOf e) v len m (fun k=>fk P h mC k e):=by
 obtain ⟨mC,rfl⟩:=H.pos;simp only [fk,hu] at H;obtain ⟨aM,H⟩:=H;rcases H with rfl | ⟨b,i,j,k,rfl⟩ | q | ⟨b,len,cap,rfl,ad,ag,aT,us,c8,dJ,ms,gU,fl,iZ⟩
 . exact ⟨mC,_,0,rfl,rfl,rfl,rfl,rfl,rfl,(fun _ _ _ _ e=>by cases e),[],[],⟨by simp,rfl⟩,rfl,by simpa using aM,fun i k aJ=>by simp at aJ⟩
 . exact ⟨mC,_,0,rfl,rfl,rfl,rfl,rfl,rfl,(fun _ _ _ _ e=>by cases e),[],[],⟨by simp,rfl⟩,rfl,by simpa using aM,fun i k aJ=>by simp at aJ⟩
 . exact absurd q al
 . exact ⟨mC,_,len,rfl,rfl,rfl,rfl,rfl,rfl,(fun _ _ _ _ e=>by cases e;exact ag),us,ms,⟨dJ,rfl,aT,us,c8,by omega,by simp⟩,gU,fl,iZ⟩
end
end
section
open Go Go.RowKit Go.ChangeShapes Go.WideShapes
variable [Lay]
section
variable {H:Type} {enc:TypeId × Value->H} {P:Program}
theorem Mm (gL:laidOutB P=true) {W uV:World} (ai:Below W.heap.size W uV):∀{dE:List TypeId} {aj:List Value} {ds:List (DataW H)} {bK:List MemPlace},(dE.all fun t=>P.readableRec t&&decide (t<P.types.size))=true->
 DataW.TrodAll enc P W 0 (fun _=>true) true dE aj ds bK->DataW.TrodAll enc P uV 0 (fun b=>decide (b<W.heap.size)) true dE aj ds bK
 | [],[],[],_,_,h=>h
 | [],_::_,_,_,_,h=>by rename_i ds _;cases ds<;>exact h.elim
 | [],[],_::_,_,_,h=>h.elim
 | _::_,[],_,_,_,h=>by rename_i ds _;cases ds<;>exact h.elim
 | _::_,_::_,[],_,_,h=>h.elim
 | t::dE,v::aj,d::ds,bK,U,h=>by have a7:=h.lt;obtain ⟨p,q,ad,ag,rfl⟩:=h;simp only [aqg,aoE,aoO] at U;exact ⟨p,q,Below.trod gL U.1.1 U.1.2 ad ai (fun x au=>a7 x (by simp [au])),Mm gL ai U.2 ag,rfl⟩
theorem Tv {W:World} {base:Nat} {sp:Nat->Bool} {held:Bool}:∀{dE:List TypeId} {aj:List Value} {ds:List (DataW H)} {bK:List MemPlace},DataW.TrodAll enc P W base sp held dE aj ds bK->ds.length=dE.length
 | [],[],[],_,_=>rfl
 | [],_::_,ds,_,h=>by cases ds<;>exact h.elim
 | [],[],_::_,_,h=>h.elim
 | _::_,[],ds,_,h=>by cases ds<;>exact h.elim
 | _::_,_::_,[],_,h=>h.elim
 | t::dE,v::aj,d::ds,bK,h=>by obtain ⟨p,q,ad,ag,rfl⟩:=h;simp [Tv ag]
theorem agk (eb:x_ P=true) (gL:laidOutB P=true) {f:FuncId} {fn:Func} {s:ChangeSpec} {K8:TypeId} (gu:(fn.params.toList.all fun t=>P.readableRec t&&decide (t<P.types.size))=true) (QC:s.vars=[]) (xi:fn.resultTypes=#[K8]) (adQ:P.underlying K8=some .bool)
 (B6:∀ds:List (DataW H),ds.length=fn.params.size->s.fn H (ds++[])={results:=[.lit (.bool true)],args:=ds})
 {B:Nat} (ax:∀(h:ah) (xs:List V),pA P h B fn.params.toList xs->dY P f xs h fun y _=>y=.bool true)
 {W:World} {base:Nat} {args:Array Value} {ds gs:List (DataW H)} {before:List MemPlace} (aD:n1 (ds++gs)<=B) (mY:Lay.ok W) (cQ:hh P) (ai:∃fn,P.funcs[f]? =some fn/\fn.body.isSome=true)
 (Jb:∀(j:Nat) t v,fn.params[j]? =some t->args[j]? =some v->Value.okWide P W .any base t v) (qo:DataW.Whole enc P fn.params.toList s.vars false W args.toList ds gs before):
 Calls P f args W fun e uV=>∃v,e=.returned v/\s.post enc P fn false true false false W args v uV:=by
 have ab':=qo;obtain ⟨p,q,mr,Em,rfl,sl,EE⟩:=qo;rw [QC] at Em;obtain ⟨rfl,rfl⟩:=trodVars_none Em;have hlen:ds.length=fn.params.size:=by rw [Tv mr];simp
 have hw:=YT eb gL (a':=base) (r:=.any) (fun t az=>by
  have:=ao9.1 gu t az;simp only [aoE,aoO] at this
  exact this.2) (fun j t v ad ag=>Jb j t v (by simpa using ad) (by simpa using ag)) mr mY cQ ai (fun h xs q=>ax h xs (q.mono (by simpa using aD)))
 simp only [apx] at hw;refine hw.mono fun e uV ⟨he,Ml⟩=>?_;subst he;refine ⟨_,rfl,ds,[],p++[],[],p,[],ab',?_,?_,?_,Ml.frame _,fun h=>by cases h⟩
 . rw [B6 ds hlen,xi];exact trodAll_mk1 (shut_bool adQ _)
 . rw [B6 ds hlen];exact Mm gL Ml gu mr
 . rw [B6 ds hlen,QC];rfl
end
end
section
open Go Go.RowKit
variable [Lay]
theorem akT {P:Program} {h:ah} {B:Nat} {xs:List V} (al:pA P h B [] xs):xs=[]:=by
 match xs,al with
 | [],_=>rfl
theorem S4 {P:Program} {h:ah} {B:Nat} {t:TypeId} {dE:List TypeId} {xs:List V} (al:pA P h B (t::dE) xs):∃a r0 k b0 n,xs=a::r0/\k+b0<=B/\qg P h n k t a/\pA P h b0 dE r0:=by
 match xs,al with
 | a::r0,⟨k,b0,aD,⟨n,aM⟩,ad⟩=>exact ⟨a,r0,k,b0,n,rfl,aD,aM,ad⟩
section
variable {P:Program} {h:ah} {n m:Nat} {t:TypeId} {v:V}
theorem akU {k:IntKind} (al:qg P h n m t v) (hu:P.underlying t=some (.int k)):∃i,v=.int k i/\(Lit.int k i).wf=true:=by unfold qg at al;rw [hu] at al;obtain ⟨s,e,q⟩:=fk.int al hu;simp only [aqi,and_true] at e;exact ⟨s,e,q⟩
theorem akV {e:TypeId} (al:qg P h n m t v) (hu:P.underlying t=some (.slice e)) {c:Nat} (ax:P.cellsOf e=c) (Ih:c≠0):∃mC len,Dw h c v len m (fun k=>fk P h mC k e):=by unfold qg at al;rw [hu] at al;subst ax;obtain ⟨mC,w,len,_,aO,g⟩:=fk.slice al hu Ih;simp only [aqi,and_true] at aO;subst aO;exact ⟨mC,len,g⟩
end
end
section
open Go Go.RowKit
set_option linter.defProp false
variable [Lay]
end
section
open Go Go.RowKit
variable [Lay]
theorem Zu {P:Program} {aQ:List iv} {r:a1} {h:ah} {Q:ec->a1->ah->Prop} {a b:cb}:yL P (.bool true) a b aQ r h Q=bL P (.c a::aQ) .normal r h Q:=by rw [Oy];simp
theorem Zt {P:Program} {aQ:List iv} {r:a1} {h:ah} {Q:ec->a1->ah->Prop} {a b:cb}:yL P (.bool false) a b aQ r h Q=bL P (.c b::aQ) .normal r h Q:=by rw [Oy];simp
theorem Mn (a b:List UInt8):r2 a b=decide (a=b):=by rw [yF,aps];simp
theorem G1 (k:IntKind) (b:Int) (d y:Nat):bound (some (.int k b)) d y=if 0<=b/\b<=(y:Int) then some b.toNat else none:=by simp only [bound,V.fK,sA];by_cases ad:0<=b<;>by_cases ag:b<=(y:Int)<;>simp [ad,ag]
theorem ak5 (s:List UInt8) (k:IntKind) (b:Int):oA (.str s) none (some (.int k b)) none=if 0<=b/\b<=(s.length:Int) then some (.str (s.take b.toNat)) else none:=by
 simp only [oA,G1];by_cases h:0<=b/\b<=(s.length:Int)
 . simp only [h,and_self,aoM,bound,apm,aql]
 . simp only [h,aoK]
theorem ak6 (s:List UInt8) (k:IntKind) (a:Int):oA (.str s) (some (.int k a)) none none=if 0<=a/\a<=(s.length:Int) then some (.str (s.drop a.toNat)) else none:=by
 simp only [oA,Ms,G1];by_cases h:0<=a/\a<=(s.length:Int)
 . simp only [h,and_self,aoM];rw [List.take_of_length_le (by rw [aoZ];omega)]
 . simp only [h,aoK]
theorem ak7 (s:List UInt8) (k b0:IntKind) (a b:Int):oA (.str s) (some (.int k a)) (some (.int b0 b)) none=if 0<=a/\a<=b/\b<=(s.length:Int) then some (.str ((s.drop a.toNat).take (b.toNat-a.toNat))) else none:=by
 simp only [oA,G1];by_cases h:0<=b/\b<=(s.length:Int)
 . simp only [h,and_self,aoM];by_cases ag:0<=a/\a<=b
   . have:0<=a/\a<=((b.toNat:Nat):Int):=by omega
     simp only [this,and_self,aoM,ag,h]
   . have ar:¬(0<=a/\a<=((b.toNat:Nat):Int)):=by omega
     have aT:¬(0<=a/\a<=b/\b<=(s.length:Int)):=by omega
     have bE:¬(0<=a/\a<=b/\True):=fun q=>ag ⟨q.1,q.2.1⟩;rw [aoI bE,aoI ar]
 . have aT:¬(0<=a/\a<=b/\b<=(s.length:Int)):=by omega
   simp only [h,aT,aoK]
theorem ak4 (s:List UInt8):oA (.str s) none none none=some (.str s):=by simp only [oA,Ms,apm,aql,aqb]
section
variable {P:Program}
theorem akH (a b:List UInt8):(fp.str .eql).run P (.str a) (.str b)=some (.bool (decide (a=b))):=by simp only [fp.run,uu,sN,Mn]
theorem akG (a b:List UInt8):(fp.str .add).run P (.str a) (.str b)=if a.length+b.length<=top then some (.str (a++b)) else none:=by
 simp only [fp.run,uu,F0];by_cases h:a.length+b.length<=top
 . rw [aoN h,show Nat.ble (a.length+b.length) top=true from by rw [aoT];exact h];rfl
 . rw [aoI h,show Nat.ble (a.length+b.length) top=false from by rw [<-Bool.not_eq_true,aoT];exact h];rfl
theorem akI (s:List UInt8) (k:IntKind) (i:Int):tQ.run (.str s) (.int k i)=if 0<=i/\i < (s.length:Int) then some (.int .u8 (((s[i.toNat]?).getD 0).toNat:Int)) else none:=by
 simp only [tQ,V.fK,sA];by_cases ad:0<=i
 . simp only [ad,aqj,aoJ,apV];by_cases ag:i < (s.length:Int)
   . rw [aoN ag,aoB (by omega)];rfl
   . rw [aoI ag,ao3 (by omega)]
 . simp only [ad,decide_false,aoP,aqn,aoK]
theorem akJ (a b:List UInt8):(fp.str .neq).run P (.str a) (.str b)=some (.bool (!decide (a=b))):=by simp only [fp.run,uu,sN,Mn]
end
end
section
open Go Go.RowKit
set_option linter.defProp false
def ams:=
 And.intro @EW<|And.intro @aex<|And.intro @afr<|And.intro @aey<|And.intro @afo<|And.intro @afs<|And.intro @afp<|And.intro @aeR<|And.intro @aeH<|And.intro @aeE<|And.intro @aeF<|And.intro @afa<|And.intro @aeO<|And.intro @afm<|And.intro @afg<|And.intro @af7<|And.intro @afn<|And.intro @aga<|And.intro @aeC<|And.intro @afF<|And.intro @ae4<|And.intro @afX<|And.intro @ae5<|And.intro @afY<|And.intro @afk<|And.intro @af'<|And.intro @aew<|And.intro @afC<|And.intro @afy<|And.intro @agf<|And.intro @aeW<|And.intro @afR<|And.intro @ae1<|And.intro @afU<|And.intro @afu<|And.intro @agd<|And.intro @aft<|And.intro @agc<|And.intro @aeT<|@afO
def amt:=
 And.intro @aeU<|And.intro @afP<|And.intro @aeV<|And.intro @afQ<|And.intro @aeZ<|And.intro @afS<|And.intro @ae0<|And.intro @afT<|And.intro @ae3<|And.intro @afW<|And.intro @ae2<|And.intro @afV<|And.intro @ae_<|And.intro @af3<|And.intro @aeS<|And.intro @afN<|And.intro @afe<|And.intro @af6<|And.intro @afh<|And.intro @af8<|And.intro @aeJ<|And.intro @afK<|And.intro @ae8<|And.intro @af1<|And.intro @ae9<|And.intro @af2<|And.intro @ae6<|And.intro @afZ<|And.intro @afj<|And.intro @af9<|And.intro @aeA<|And.intro @afD<|And.intro @aeB<|And.intro @afE<|And.intro @afv<|And.intro @age<|And.intro @afd<|And.intro @af5<|And.intro @afz<|@agh
def amu:=
 And.intro @afc<|And.intro @af4<|And.intro @afq<|And.intro @agb<|And.intro @afl<|And.intro @af_<|And.intro @aet<|And.intro @afB<|And.intro @aeG<|And.intro @afI<|And.intro @ae7<|And.intro @af0<|And.intro @aeI<|And.intro @afJ<|And.intro @aeL<|And.intro @afM<|And.intro @aeK<|And.intro @afL<|And.intro @afG<|And.intro @afH<|And.intro @QU<|And.intro @aeD<|@aeN
def amv:=
 And.intro @als<|And.intro @ak'<|And.intro @Zu<|And.intro @Zt<|And.intro @YU<|And.intro @aku<|And.intro @WA<|And.intro @Wz<|And.intro @aiA<|And.intro @aa6<|And.intro @aa5<|And.intro @WC<|And.intro @aaQ<|And.intro @aaP<|And.intro @ajE<|And.intro @aa0<|And.intro @ahV<|And.intro @ahU<|And.intro @agF<|And.intro @agD<|And.intro @agG<|And.intro @agE<|And.intro @agH<|And.intro @Jl<|And.intro @Jk<|And.intro @ZV<|And.intro @aaS<|And.intro @aaR<|And.intro @alL<|And.intro @akQ<|And.intro @akR<|And.intro @ahK<|And.intro @ahM<|And.intro @aiz<|And.intro @aiw<|And.intro @amg<|And.intro @amf<|And.intro @Wj<|And.intro @Wk<|@Wl
def amw:=
 And.intro @Wm<|And.intro @Wi<|And.intro @Uy<|And.intro @UA<|And.intro @Uz<|And.intro @alI<|And.intro @alK<|And.intro @alJ<|And.intro @aem<|And.intro @aeo<|And.intro @aen<|And.intro @aes<|And.intro @afw<|And.intro @aff<|And.intro @aeQ<|And.intro @afi<|And.intro @afb<|And.intro @ae'<|And.intro @aeY<|And.intro @aeX<|And.intro @aev<|And.intro @aez<|And.intro @al_<|And.intro @al'<|And.intro @agP<|And.intro @agQ<|And.intro @zE<|And.intro @Q3<|And.intro @Q6<|And.intro @Q7<|And.intro @alh<|And.intro @agl<|And.intro @sf<|And.intro @k2<|And.intro @ey<|And.intro @lJ<|And.intro @ig<|And.intro @iO<|And.intro @ahp<|@Y3
def amx:=
 And.intro @ahY<|And.intro @abx<|And.intro @Y7<|And.intro @RR<|And.intro @abB<|And.intro @Ze<|And.intro @aia<|And.intro @abK<|And.intro @Za<|And.intro @ah7<|And.intro @abG<|And.intro @Zc<|And.intro @ah'<|And.intro @abI<|And.intro @Zd<|And.intro @ah_<|And.intro @abJ<|And.intro @Y5<|And.intro @ah1<|And.intro @abz<|And.intro @Zf<|And.intro @aib<|And.intro @abL<|And.intro @Zb<|And.intro @ah8<|And.intro @abH<|And.intro @Y_<|And.intro @ah6<|And.intro @abF<|And.intro @Y8<|And.intro @ah3<|And.intro @abC<|And.intro @Y4<|And.intro @ah0<|And.intro @aby<|And.intro @Y'<|And.intro @ah5<|And.intro @abE<|And.intro @Y6<|@ah2
def amy:=
 And.intro @abA<|And.intro @Y9<|And.intro @ah4<|And.intro @abD<|And.intro @Y2<|And.intro @abw<|And.intro @abM<|And.intro @agx<|And.intro @agy<|And.intro @agw<|And.intro @beq_true<|And.intro @beq_false<|And.intro @Bool.not_true<|And.intro @Bool.not_false<|And.intro @ap1<|And.intro @apG<|And.intro @Bool.false_and<|And.intro @aqa<|And.intro @Bool.not_not<|And.intro @V.bool.injEq<|And.intro @aph<|And.intro @apO<|And.intro @alE<|And.intro @alF<|And.intro @alD<|And.intro @Bool.true_eq_false<|And.intro @aoA<|And.intro @alH<|And.intro @ajV<|And.intro @ajW<|And.intro @V3<|And.intro @V2<|And.intro @VZ<|And.intro @VW<|And.intro @acy<|And.intro @acA<|And.intro @acz<|And.intro @VX<|And.intro @VY<|@V0
def amz:=
 And.intro @V1<|And.intro @Fg<|And.intro @amD<|And.intro @sH<|And.intro @amE<|And.intro @xJ<|And.intro @amF<|And.intro @ahD<|And.intro @amG<|And.intro @ahE<|And.intro @amH<|And.intro @ahF<|And.intro @amI<|And.intro @ahG<|And.intro @amJ<|And.intro @ahH<|And.intro @amK<|And.intro @abt<|And.intro @abp<|And.intro @abr<|And.intro @abq<|And.intro @abu<|And.intro @Bool.or_false<|And.intro @Bool.false_or<|And.intro @Bool.or_true<|And.intro @Bool.true_or<|And.intro @ahw<|And.intro @aha<|And.intro @JL<|And.intro @aix<|And.intro @aiy<|And.intro @Vq<|And.intro @Vw<|And.intro @Vx<|And.intro @Vy<|And.intro @Vz<|And.intro @VA<|And.intro @VB<|And.intro @VC<|@VD
def amA:=
 And.intro @Vp<|And.intro @Vr<|And.intro @Vs<|And.intro @Vt<|And.intro @Vu<|And.intro @Vv<|And.intro @ak5<|And.intro @ak6<|And.intro @ak7<|And.intro @ak4<|And.intro @akH<|And.intro @akJ<|And.intro @akG<|@akI
end
section
open Go Go.RowKit
variable [Lay]
theorem AU {B:Nat} {h:ah} {size:Nat} {s:V} {n:Nat} {us cs:List V} (dH:1<=size) (H1:dA B h size s n us) (cd:B<=h.next) (hlen:(n+1) * size<=top) (jA:cs.length=size) (bG:gV cs=true):
 ∃v ae,kj size s (.slice (ao h.next) 0 1 1) (h.new (.bd cs 0 false))=.val v ae/\dA B ae size v (n+1) (us++cs)/\Mod s.bp h ae/\h.next+1<=ae.next/\∀b,v.bp b->s.bp b\/h.next<dP b:=by
 have au:Ext h (h.new (.bd cs 0 false)):=(Ext.refl h).new _;have bZ:hi (h.new (.bd cs 0 false)) size (.slice (ao h.next) 0 1 1) 1 cs:=by refine ⟨by rw [jA];omega,rfl,jP (by rw [ig];omega),cs,.inr ⟨0,false,by rw [sf]⟩,by omega,by simp⟩
 obtain ⟨v,ae,an,av,aB,bt⟩:=Md dH (H1.ext au) bZ (by rw [ig];omega) hlen bG;refine ⟨v,ae,an,av,(au.mod _).trans aB,by have:=aB.next;rw [ig] at this;exact this,fun b ai=>?_⟩;rcases bt b ai with q | q
 . exact .inl q
 . exact .inr (by rw [ig] at q;omega)
theorem TA:∀l:List UInt8,p4 (g' l)=some l
 | []=>rfl
 | c::l=>by have cc:=TA l;simp only [g',p4,cc];simp
theorem A7:∀l:List UInt8,(g' l).length=l.length
 | []=>rfl
 | c::l=>by simp only [g',aoH,A7 l]
theorem DI:∀l m:List UInt8,g' (l++m)=g' l++g' m
 | [],m=>rfl
 | c::l,m=>by simp only [g',aoW,DI l m]
theorem Mw:∀l:List UInt8,gV (g' l)=true
 | []=>rfl
 | c::l=>by have cc:=Mw l;simp only [g',gV,cc,RR,apG]
theorem Tc {h:ah} {b:aN} {us:List V} {dw:Nat} {st:Bool} {off:Nat} {l:List UInt8} (ay:h.get b=.bd us dw st) (aG:off+l.length<=us.length) (hu:(us.drop off).take l.length=g' l):vR b off l.length h=.val (.str l) h:=by unfold vR;rw [ay];simp only [c_.qU,c_.bd];rw [show Nat.ble (off+l.length) us.length=true from by rw [aoT];exact aG];simp only [aoJ];rw [Ed us l.length off aG,hu,TA]
theorem th {B:Nat} {h:ah} {v:V} {n:Nat} {l:List UInt8} (H:dA B h 1 v n (g' l)):u2.run v h=.val (.str l) h:=by
 have ad:=H.1;rw [A7,aqk] at ad;have ag:=H.2;cases v<;>simp only at ag<;>try (exact ag.elim)
 case cL=>
  subst ag;rw [apS] at ad;subst ad;rfl
 case slice=>
  obtain ⟨an,av,aB,bt,ca,us,dw,st,cx,dq,dy⟩:=ag;rw [A7] at dy;simp only [u2];rw [an,<-ad];exact Tc cx (by omega) dy
 case gp=>
  obtain ⟨an,av,aB,bt,ca,us,st,cx,dq,dy⟩:=ag;rw [A7] at dy dq;simp only [u2];rw [an,bt,<-ad];exact Tc cx (by omega) (by simpa using dy)
def pC (size:Nat) (s:V) (m:Nat) (aj:List V) (h:ah):bh:=match s with
 | .cL=>uY size m aj h
 | .slice b off len cap=>uX size b off len cap m aj h
 | .gp b off len idx=>uW size b off len idx m aj h
 | _=>.fail
theorem VR {B:Nat} {h:ah} {size:Nat} {s x:V} {n m:Nat} {us aj:List V} (dH:1<=size) (H1:dA B h size s n us) (k7:aj.length=m * size) (abX:kj size s x h=pC size s m aj h) (cd:B<=h.next) (hlen:(n+m) * size<=top) (bG:gV aj=true):
 ∃v ae,kj size s x h=.val v ae/\dA B ae size v (n+m) (us++aj)/\Mod s.bp h ae/\∀b,v.bp b->s.bp b\/h.next<=dP b:=by
 have oh:n+m<=top:=aoF (Nat.le_mul_of_pos_right _ dH) hlen;have jJ:=H1.1;have hG:(us++aj).length=(n+m) * size:=by rw [aoL,jJ,k7,apl]
 rw [abX];unfold pC;have ag:=H1.2;cases s<;>simp only at ag ⊢<;>try (exact ag.elim)
 case cL=>
  subst ag;have:us=[]:=apo (by omega);subst this;unfold uY;by_cases hm:m=0
  . subst hm;have:aj=[]:=apo (by omega);subst this;exact ⟨.cL,h,rfl,⟨by simp,rfl⟩,Mod.refl _ _,fun b ai=>.inl ai⟩
  . rw [show Nat.beq m 0=false from by rw [<-Bool.not_eq_true,ao8];exact hm];simp only [aoP];rw [zO (by rw [k7];simpa using hlen) dH];refine ⟨_,_,rfl,?_,(Mod.refl _ _).new _,fun b ai=>.inr (by rw [show b=ao h.next from ai,dh];exact aoz _)⟩;have:=dA.grown (B:=B) (h:=h) (size:=size) (aj:=aj) (n:=m) (st:=false) k7 cd;simpa using this
 case slice b off len cap=>
  obtain ⟨rfl,av,aB,bt,ca,iS,dw,st,cx,dq,dy⟩:=ag;unfold uX;by_cases ax:len+m<=cap
  . rw [show Nat.ble (len+m) cap=true from by rw [aoT];exact ax];simp only [aoJ];have ga:off+len * size+aj.length<=iS.length:=by
     have:=apj size ax;rw [apl] at this;rw [k7];omega
    rw [Own.lay (aj:=iS) (dw:=dw) (st:=st) cx ga bG];refine ⟨_,_,rfl,⟨hG,rfl,av,aB,ax,ca,_,dw,st,ey _ _ _ |>.trans (aoN rfl),?_,?_⟩,(Mod.refl (V.bp (.slice b off len cap)) h).set (fun _=>rfl) _,fun ck ai=>.inl ai⟩
    . rw [rQ _ _ _ ga];exact dq
    . rw [aoL];unfold jU;have hx:off+us.length<=iS.length:=by rw [jJ];omega
      have aO:iS.take (off+len * size)=iS.take off++us:=by rw [<-jJ,List.take_add,dy]
      rw [aO,api,api,List.drop_append,ao_ (by rw [apX];omega),ao5];rw [show off - (iS.take off).length=0 from by rw [apX];omega,apm];rw [<-List.append_assoc,aqh (by rw [aoL])]
  . rw [show Nat.ble (len+m) cap=false from by rw [<-Bool.not_eq_true,aoT];exact ax];simp only [aoP];rw [show (Nat.ble (len+m) top&&Nat.ble cap top)=true from by simp only [aoE,aoT];exact ⟨oh,ca⟩];simp only [aoJ];have wX:lR h b off us:=⟨aB,iS,.inr ⟨dw,st,cx⟩,by rw [jJ];have:=apj size bt;omega,dy⟩;rw [C3 wX jJ];simp only;rw [zO (by rw [hG];exact hlen) dH];exact ⟨_,_,rfl,dA.grown hG cd,(Mod.refl _ _).new _,fun b ai=>.inr (by rw [show b=ao h.next from ai,dh];exact aoz _)⟩
 case gp b off len idx=>
  obtain ⟨rfl,av,aB,rfl,rfl,iS,st,cx,dq,dy⟩:=ag;unfold uW;by_cases hm:m=0
  . subst hm;have:aj=[]:=apo (by omega);subst this;exact ⟨_,h,rfl,⟨hG,rfl,av,aB,rfl,rfl,iS,st,cx,by simpa using dq,by simpa using dy⟩,Mod.refl _ _,fun b ai=>.inl ai⟩
  . rw [show Nat.beq m 0=false from by rw [<-Bool.not_eq_true,ao8];exact hm];simp only [aoP];rw [cx];simp only [c_.bd,c_.on];rw [show (Nat.beq size size&&(Nat.ble (len+m) top&&gV aj)&&Nat.beq 0 (0 * size))=true from by
     simp only [aoE,ao8,aoT]
     exact ⟨⟨trivial,oh,bG⟩,by omega⟩]
    simp only [aoJ];have wX:lR h b 0 us:=⟨aB,iS,.inr ⟨size,st,cx⟩,by omega,by simpa using dy⟩;rw [C3 wX jJ];simp only;rw [zO (by rw [hG];exact hlen) dH];exact ⟨_,_,rfl,dA.grown (h:=h.set b .dead) hG cd,((Mod.refl (V.bp (.gp b 0 len 0)) h).set (fun _=>rfl) _).new _,fun ck ai=>.inr (by rw [show ck=ao h.next from ai,dh];exact aoz _)⟩
theorem VT {B:Nat} {h:ah} {s:V} {n:Nat} {us:List V} (t:List UInt8) (H1:dA B h 1 s n us) (cd:B<=h.next) (hlen:n+t.length<=top):
 ∃v ae,kj 1 s (.str t) h=.val v ae/\dA B ae 1 v (n+t.length) (us++g' t)/\Mod s.bp h ae/\∀b,v.bp b->s.bp b\/h.next<=dP b:=by
 refine VR (by omega) H1 (by rw [A7,aqk]) ?_ cd (by omega) (Mw t);have aI:Nat.ble t.length top=true:=by rw [aoT];omega
 have kI:uq h 1 (.str t) t.length=some (g' t):=by simp only [uq];rw [show Nat.ble t.length t.length=true from by rw [aoT];exact aoz _,aqb];rfl
 unfold kj pC;simp only [pT];rw [kI];simp only [aI];rfl
theorem Mod.self {b:aN} {h ae:ah} (e:Mod (fun q=>q=b) h ae) (k:c_):Mod (fun q=>q=b) h (ae.set b k):=e.set (fun _=>rfl) k
theorem Mod.fresh {M:aN->Prop} {h ae:ah} (e:Mod M h ae) {i:Nat} (aJ:h.next<=i) (k:c_):Mod M h (ae.set (ao i) k):=
 e.set (fun q=>absurd (show dP (ao i)<h.next from q) (by rw [dh];omega)) k
theorem Mod.Tr {M N:aN->Prop} {h ag ar:ah} (e:Mod M h ag) (q:Mod N ag ar) (aI:∀b,N b->h.next<=dP b):Mod M h ar:=
 ⟨aoF e.next q.next,fun b bG ai=>by rw [q.get b (e.cu bG) (fun k=>absurd (show dP b<h.next from bG) (by have:=aI b k;omega)),e.get b bG ai]⟩
inductive D where
 | i (k:IntKind) (n:Int)
 | b (x:Bool)
 | s (x:List UInt8)
 | l (size:Nat) (es:List (List D))
inductive ev (F:aN->Prop) (h:ah):List D->List V->Prop
 | nil:ev F h [] []
 | i {k:IntKind} {n:Int} {ds:List D} {aj:List V} (t:ev F h ds aj):ev F h (.i k n::ds) (.int k n::aj)
 | b {x:Bool} {ds:List D} {aj:List V} (t:ev F h ds aj):ev F h (.b x::ds) (.bool x::aj)
 | s {x:List UInt8} {ds:List D} {aj:List V} (ai:x.length<=top) (t:ev F h ds aj):ev F h (.s x::ds) (.str x::aj)
 | l {size:Nat} {es:List (List D)} {v:V} {us:List (List V)} {ds:List D} {aj:List V} (U:CZ v) (ai:es.length<=top) (al:hi h size v es.length us.flatten) (hu:us.length=es.length) (bN:∀u ∈ us,u.length=size)
    (kids:∀(i:Nat) (e:List D) (u:List V),es[i]? =some e->us[i]? =some u->ev F h e u) (aE:∀b,v.bp b->F b) (t:ev F h ds aj):ev F h (.l size es::ds) (v::aj)
structure e_ (F:aN->Prop) (h:ah) (size:Nat) (es:List (List D)) (v:V):Prop where
 room:CZ v
 le:es.length<=top
 ex:∃us:List (List V),hi h size v es.length us.flatten/\us.length=es.length/\(∀u ∈ us,u.length=size)/\∀(i:Nat) (e:List D) (u:List V),es[i]? =some e->us[i]? =some u->ev F h e u
 Bx:∀b,v.bp b->F b
section
variable {F:aN->Prop} {h ae:ah} {ds:List D} {aj:List V}
theorem ev.mod {eX M:aN->Prop} (m:Mod M h ae) (fC:∀b,F b->Old h b->¬M b/\eX b) (H:ev F h ds aj):ev eX ae ds aj:=by
 induction H with
 | nil=>exact .nil
 | i t cc=>exact .i cc
 | b t cc=>exact .b cc
 | s ai t cc=>exact .s ai cc
 | l U ai al hu bN kids aE t vq tO=>exact .l U ai (al.mod m fun b q=>(fC b (aE b q) (al.cu q)).1) hu bN vq (fun b q=>(fC b (aE b q) (al.cu q)).2) tO
theorem ev.ext (H:ev F h ds aj) (e:Ext h ae):ev F ae ds aj:=by
 induction H with
 | nil=>exact .nil
 | i t cc=>exact .i cc
 | b t cc=>exact .b cc
 | s ai t cc=>exact .s ai cc
 | l U ai al hu bN kids aE t vq tO=>exact .l U ai (al.ext e) hu bN vq aE tO
theorem ev.eU {eX:aN->Prop} (H:ev F h ds aj) (w:∀b,F b->eX b):ev eX h ds aj:=by
 induction H with
 | nil=>exact .nil
 | i t cc=>exact .i cc
 | b t cc=>exact .b cc
 | s ai t cc=>exact .s ai cc
 | l U ai al hu bN kids aE t vq tO=>exact .l U ai al hu bN vq (fun b q=>w b (aE b q)) tO
theorem ev.cu (H:ev F h ds aj):ev (fun b=>F b/\Old h b) h ds aj:=by
 induction H with
 | nil=>exact .nil
 | i t cc=>exact .i cc
 | b t cc=>exact .b cc
 | s ai t cc=>exact .s ai cc
 | l U ai al hu bN kids aE t vq tO=>exact .l U ai al hu bN vq (fun b q=>⟨aE b q,al.cu q⟩) tO
theorem ev.gV (H:ev F h ds aj):gV aj=true:=by
 induction H with
 | nil=>rfl
 | i t cc=>simpa [Go.Proofs.YtahfljfikfkpnaaGreatDoor.ba.gV,V.one] using cc
 | b t cc=>simpa [Go.Proofs.YtahfljfikfkpnaaGreatDoor.ba.gV,V.one] using cc
 | s ai t cc=>simpa [Go.Proofs.YtahfljfikfkpnaaGreatDoor.ba.gV,V.one] using cc
 | l U ai al hu bN kids aE t vq tO=>simp only [Go.Proofs.YtahfljfikfkpnaaGreatDoor.ba.gV,al.one.1,tO,Bool.and_self]
theorem ev.int {k:IntKind} {n:Int} (H:ev F h (.i k n::ds) aj):∃us,aj=.int k n::us/\ev F h ds us:=by
 cases H with
 | i t=>exact ⟨_,rfl,t⟩
theorem ev.str {x:List UInt8} (H:ev F h (.s x::ds) aj):∃us,aj=.str x::us/\x.length<=top/\ev F h ds us:=by
 cases H with
 | s ai t=>exact ⟨_,rfl,ai,t⟩
theorem ev.c' {size:Nat} {es:List (List D)} (H:ev F h (.l size es::ds) aj):∃v us,aj=v::us/\e_ F h size es v/\ev F h ds us:=by
 cases H with
 | l U ai al hu bN kids aE t=>exact ⟨_,_,rfl,⟨U,ai,⟨_,al,hu,bN,kids⟩,aE⟩,t⟩
theorem ev.no (H:ev F h [] aj):aj=[]:=by cases H;rfl
end
theorem HO {size:Nat}:∀(us:List (List V)) (i:Nat) (u:List V),(∀u ∈ us,u.length=size)->us[i]? =some u->(us.flatten.drop (i * size)).take size=u
 | [],i,u,_,h=>by simp at h
 | w::us,0,u,aG,h=>by simp only [aoR,aoC] at h;subst h;rw [Nat.zero_mul,apm,apI,aqh (aG _ (by simp))]
 | w::us,i+1,u,aG,h=>by rw [show (i+1) * size=size+i * size from by rw [Nat.succ_mul,Nat.add_comm],<-List.drop_drop,apI,List.drop_left' (aG _ (by simp))];exact HO us i u (fun u hu=>aG u (by simp [hu])) (by simpa using h)
theorem HP {size:Nat}:∀(us:List (List V)),(∀u ∈ us,u.length=size)->us.flatten.length=us.length * size
 | [],_=>by simp
 | w::us,aG=>by rw [apI,aoL,aG w (by simp),HP us (fun u hu=>aG u (by simp [hu])),aoH,Nat.succ_mul,Nat.add_comm]
section
variable {F:aN->Prop} {h ae:ah} {size:Nat} {es:List (List D)} {v:V}
theorem e_.cons {ds:List D} {aj:List V} (H:e_ F h size es v) (t:ev F h ds aj):ev F h (.l size es::ds) (v::aj):=by obtain ⟨us,a,b,c,d⟩:=H.ex;exact .l H.room H.le a b c d H.Bx t
theorem e_.ext (H:e_ F h size es v) (e:Ext h ae):e_ F ae size es v:=by obtain ⟨us,a,b,c,d⟩:=H.ex;exact ⟨H.room,H.le,⟨us,a.ext e,b,c,fun i x u an av=>(d i x u an av).ext e⟩,H.Bx⟩
theorem e_.mod {eX M:aN->Prop} (m:Mod M h ae) (fC:∀b,F b->Old h b->¬M b/\eX b) (H:e_ F h size es v):e_ eX ae size es v:=by obtain ⟨us,a,b,c,d⟩:=H.ex;exact ⟨H.room,H.le,⟨us,a.mod m fun x q=>(fC x (H.Bx x q) (a.cu q)).1,b,c,fun i x u an av=>(d i x u an av).mod m fC⟩,fun x q=>(fC x (H.Bx x q) (a.cu q)).2⟩
theorem e_.eU {eX:aN->Prop} (H:e_ F h size es v) (w:∀b,F b->eX b):e_ eX h size es v:=by obtain ⟨us,a,b,c,d⟩:=H.ex;exact ⟨H.room,H.le,⟨us,a,b,c,fun i x u an av=>(d i x u an av).eU w⟩,fun b q=>w b (H.Bx b q)⟩
theorem e_.len (H:e_ F h size es v):k' v=some (.int .i64 es.length):=by obtain ⟨us,a,_⟩:=H.ex;exact a.len
theorem e_.one (H:e_ F h size es v):v.one=true/\v.cells=[v]/\v.hO=true:=by obtain ⟨us,a,_⟩:=H.ex;exact a.one
theorem e_.nil (F:aN->Prop) (h:ah) (size:Nat):e_ F h size [] .cL:=⟨fun b o l c e=>(by cases e),aoQ _,⟨[],⟨by simp,rfl⟩,rfl,fun u hu=>(by cases hu),fun i e u q=>(by simp at q)⟩,fun b q=>q.elim⟩
theorem e_.at (H:e_ F h size es v) {k:IntKind} {i:Nat} (aJ:i<es.length):
 ∃b off u,j9 size v (.int k i)=some (.ptr b (off+i * size))/\ev F h es[i] u/\u.length=size/\(∀ae,Ext h ae->rE size (ae.get b) (off+i * size)=some (.agg u))/\∀ae,Ext h ae->∀j,j<size->gv (ae.get b) (off+i * size+j)=u[j]? :=by
 obtain ⟨us,ad,ag,aG,ar⟩:=H.ex;have P9:i<us.length:=by omega
 have hu:=aoB P9;obtain ⟨b,off,aO,bs⟩:=ad.l5 (k:=k) aJ;have aE:=HO us i _ aG hu;have tu:=HP us aG;have hle:i * size+size<=us.length * size:=by have:=apj size (show i+1<=us.length by omega);rw [Nat.succ_mul] at this;exact this
 have EL:us[i].length=size:=aG _ (apQ P9);refine ⟨b,off,us[i],aO,ar i _ _ (aoB aJ) hu,EL,fun ae e=>?_,fun ae e j cW=>?_⟩
 . rw [(bs.ext e).k9 (i:=i * size) (n:=size) (by omega),aE]
 . rw [apw,(bs.ext e).kJ (i:=i * size+j) (by omega)];have:((us.flatten.drop (i * size)).take size)[j]? =us[i][j]? :=by rw [aE]
   rw [apt cW,apD] at this;rw [<-this,aoB (by omega)]
end
def Any (_:aN):Prop:=True
theorem Ti:∀{ms:List Nat},(∀(i k:Nat),ms[i]? =some k->1<=k)->ms.length<=ms.sum
 | [],_=>aoz _
 | m::ms,h=>by have aM:=h 0 m rfl;have:=Ti (ms:=ms) fun i k q=>h (i+1) k (by simpa using q);simp only [aoH,List.sum_cons];omega
theorem Th:∀{ms:List Nat} {i k:Nat},ms[i]? =some k->k<=ms.sum
 | [],_,_,h=>by simp at h
 | m::ms,0,k,h=>by simp only [aoR,aoC] at h;subst h;simp only [List.sum_cons];omega
 | m::ms,i+1,k,h=>by have:=Th (ms:=ms) (i:=i) (k:=k) (by simpa using h);simp only [List.sum_cons];omega
theorem aip {α:Type} (enc:α->List D) {h:ah} {size len m:Nat} {v:V} {Q:Nat->List V->Prop} (H:Dw h size v len m Q) (hm:m<=1048576)
 (aH:∀k aj,k<m->Q k aj->∃x,ev Any h (enc x) aj/\aj.length=size):∃xs:List α,xs.length=len/\xs.length+1<=m/\e_ Any h size (xs.map enc) v:=by
 obtain ⟨_,_,_,_,U,us,aQ,c8,dJ,gU,fl⟩:=H;have anO:=Ti fun i k q=>(fl i k q).1;obtain ⟨bK,g1,g2,g3⟩:=collect (α:=α × List V) Prod.snd size (fun p=>ev Any h (enc p.1) p.2/\p.2.length=size) len us c8.1 (fun i aJ=>by obtain ⟨k,aD⟩:∃k,aQ[i]? =some k:=⟨_,aoB (by omega)⟩;have:=Th aD;obtain ⟨x,au,aG⟩:=aH k _ (by omega) (fl i k aD).2;exact ⟨(x,_),rfl,au,aG⟩);refine ⟨bK.map Prod.fst,by rw [ao6];exact g1,by rw [ao6];omega,U,by rw [ao6,ao6];unfold top;omega,⟨bK.map Prod.snd,?_,by simp,?_,?_⟩,fun _ _=>trivial⟩
 . rw [ao6,ao6,g1,<-List.flatMap_def,<-g2];exact c8
 . intro u hu;obtain ⟨p,aF,rfl⟩:=aqm.1 hu;exact (g3 p aF).2
 . intro i c u an av;rw [apg] at an av;rw [apg] at an;cases aF:bK[i]? with
   | none=>rw [aF] at an;cases an
   | some p=>
     rw [aF] at an av;simp only [apu,aoC] at an av;subst an av;exact (g3 p (apJ aF)).1
end
section
open Go Go.RowKit
set_option linter.defProp false
variable [Lay]
def aa:=And.intro @ams<|And.intro @amt @amu
def ami:=And.intro @amv<|And.intro @amw<|And.intro @amx<|And.intro @amy<|And.intro @amz @amA
def amj:=And.intro @Option.isSome_some.{0}<|And.intro @ap2.{0}<|And.intro @aoM.{1}<|And.intro @aoK.{1}<|And.intro @apV<|And.intro @and_true<|And.intro @aoR.{0}<|And.intro @apq.{0}<|And.intro @aoH.{0}<|And.intro @aoS.{0}<|
 And.intro @apm.{0}<|And.intro @aqd.{0}<|And.intro @apT.{0}<|And.intro @List.take_zero.{0}<|And.intro @aoW.{0}<|And.intro @ao5.{0}<|And.intro @aoC.{0}<|And.intro @exists_eq_left'.{1}<|And.intro @aqi.{0}<|
 And.intro @Nat.succ_ne_zero<|And.intro @aed<|And.intro @aec<|And.intro @List.getElem?_nil.{0}<|And.intro @aqj<|And.intro @decide_false<|And.intro @eq_self.{1}<|And.intro @not_true_eq_false<|And.intro @not_false_eq_true<|And.intro @ite_true.{1} @ite_false.{1}
def cM:=And.intro ami (And.intro amj (And.intro @kP.eq_1 (And.intro @kP.eq_2 (And.intro @aZ.gE.eq_1 (And.intro @aZ.gE.eq_2 (And.intro @qW.eq_1 (And.intro @qW.eq_2 (And.intro @qW.eq_3 (And.intro @over.eq_1 (And.intro @over.eq_2 (And.intro @over.eq_3 (And.intro @gV.eq_1 (@gV.eq_2)))))))))))))
def ab:=And.intro cM (And.intro @ec.ends.eq_1 (And.intro @ec.ends.eq_2 (And.intro @hs.eq_1 (And.intro @hs.eq_2 (And.intro @hs.eq_3 (And.intro @hs.eq_4 (And.intro @oneOf.eq_1 (And.intro @oneOf.eq_2 top.eq_1))))))))
end
section
open Go Go.RowKit
variable [Lay]
structure Has (h:ah) (n:Nat) (l:List V):Prop where
 lt:n<h.next
 g:h.get (ao n)=.bd l 0 false
theorem Has.ext {h ae:ah} {n:Nat} {l:List V} (B:Has h n l) (e:Ext h ae):Has ae n l:=⟨apP B.lt e.next,(e.get _ (jP B.lt)).trans B.g⟩
theorem fS (h:ah) (l:List V):∃H,h.new (.bd l 0 false)=H/\Ext h H/\Has H h.next l:=⟨_,rfl,(Ext.refl h).new _,by rw [ig];omega,sf _⟩
theorem fz (h:ah) (z l:List V):∃H,(h.new (.bd z 0 false)).set (ao h.next) (.bd l 0 false)=H/\Ext h H/\Has H h.next l:=
 ⟨_,rfl,((Ext.refl h).new _).set (aoz _) _,by rw [iO,ig];omega,by rw [ey,aoN rfl]⟩
theorem Has.set {h:ah} {n m:Nat} {l:List V} (B:Has h n l) (hm:n≠m) (k:c_):Has (h.set (ao m) k) n l:=⟨by rw [iO];exact B.lt,by rw [ey,aoI (by rw [lJ];exact fun q=>hm q.symm)];exact B.g⟩
theorem Has.put {h:ah} {n:Nat} {l:List V} (B:Has h n l) (eC:List V):Has (h.set (ao n) (.bd eC 0 false)) n eC:=⟨by rw [iO];exact B.lt,by rw [ey,aoN rfl]⟩
theorem xy (h:ah) (size n:Nat) (aj:List V) (aG:aj.length=n * size) (aI:n<=top):∃H,h.new (.bd aj 0 false)=H/\Ext h H/\hi H size (.slice (ao h.next) 0 n n) n aj/\CZ (.slice (ao h.next) 0 n n)/\∀b,(V.slice (ao h.next) 0 n n).bp b->b=ao h.next:=
 ⟨_,rfl,(Ext.refl h).new _,dA.v (B:=h.next) ⟨aG,rfl,by rw [dh];exact aoz _,jP (by rw [ig];omega),aoz _,aI,aj,0,false,sf _,by omega,by rw [apm,aqb]⟩,
   fun b o l c e=>by cases e;exact aoz _,fun b q=>q⟩
theorem e_.set {F:aN->Prop} {h:ah} {size:Nat} {es:List (List D)} {v:V} (H:e_ F h size es v) {b:aN} (ai:¬F b) (k:c_):e_ F (h.set b k) size es v:=
 H.mod ((Mod.refl (fun x=>x=b) h).set (fun _=>rfl) k) fun x q _=>⟨fun e=>ai (e ▸ q),q⟩
theorem dj {h:ah} {n:Nat} (aI:h.next<=n):¬Old h (ao n):=fun q=>by unfold Old at q;rw [dh] at q;omega
theorem uF {i n:Nat} (h:i<n) (aI:n<=4611686018427387904):IntKind.i64.wrap ((i:Int)+1)=((i+1:Nat):Int):=by rw [wrap_i64 (by omega) (by omega)];rfl
def Bm (i:Int):List D:=[.i .i64 i]
theorem e_.aek {F:aN->Prop} {h:ah} {l:List Int} {v:V} (H:e_ F h 1 (l.map Bm) v) {k:IntKind} {i:Nat} (aJ:i<l.length):
 ∃b off,j9 1 v (.int k i)=some (.ptr b (off+i * 1))/\∀ae,Ext h ae->gv (ae.get b) (off+i * 1)=some (.int .i64 l[i]):=by
 obtain ⟨b,off,u,aO,bs,cT,_,cO⟩:=H.at (k:=k) (i:=i) (by rw [ao6];exact aJ);rw [aqc,Bm] at bs;obtain ⟨us,rfl,e7⟩:=ev.int bs;obtain rfl:=e7.no;exact ⟨b,off,aO,fun ae e=>by simpa using cO ae e 0 (by omega)⟩
section
variable {aA:Fr} {E bY:Env} {h ax:ah} {w aR:World}
end
def h3:List UInt8->List UInt8->Bool
 | [],[]=>true
 | a::We,b::b7=>Nat.beq a.toNat b.toNat&&h3 We b7
 | _,_=>false
section
variable {h ax:ah}
end
inductive Dl (F:aN->Prop) (h:ah):List (Int × List D)->List fv->Prop
 | nil:Dl F h [] []
 | cons {n:Int} {ds:List D} {y:V} {born:Nat} {ie:List (Int × List D)} {es:List fv} (bk:ev F h ds y.cells) (t:Dl F h ie es):Dl F h ((n,ds)::ie) (⟨.int .i64 n,y,born⟩::es)
structure am1 (F:aN->Prop) (h:ah) (ie:List (Int × List D)) (v:V):Prop where
 ex:∃b es,v=.map b/\Old h b/\((∃clock,h.get b=.mp es clock)\/h.get b=.l6 es/\(ie.map Prod.fst).Nodup)/\Dl F h ie es/\F b
section
variable {F:aN->Prop} {h ae:ah} {ie:List (Int × List D)} {es:List fv} {v:V}
theorem SS (k n:Int):oV.run (.int .i64 k) (.int .i64 n)=some (decide (k=n)):=by simp only [oV,V.fK,q',aoJ,Bo]
end
section
variable {h ax:ah}
end
section
variable {C:Ctx} (fC:C.P.follows .mixedOrders=true) (cQ:hh C.P) (wU:U' C) {n:Nat} {f:FuncId} (aE:Nat.beq f eA=false) (au:C.ext f=none) (mV:∃fn,C.P.funcs[f]? =some fn/\fn.body.isSome=true)
include fC cQ wU aE au mV
end
end
end Go.Proofs.YtahfljfikfkpnaaGreatDoor.ba
