/- The abstract machine and its walks (a verified interpreter of the model's code: plain definitions and lemmas, no condition). Printed by a program from longer texts: names made short. -/
import Derived.Test.YtahfljfikfkpnaaGreatDoorM3
import Derived.Carry
import Derived.OpenShut
import Derived.ChangeSame
import Derived.Lib.Bytealg
import Derived.Lib.IndexMore
import Derived.Handed
import Derived.HandedShaped
import Derived.ChangeArms
import Derived.DataReads
import Derived.ChangeBears
set_option linter.unusedSectionVars false
set_option linter.unusedSimpArgs false
set_option linter.unusedVariables false
set_option maxHeartbeats 64000000
noncomputable section
namespace Go.Proofs.YtahfljfikfkpnaaGreatDoor.bg
section
open Go Go.RowKit
variable [Lay]
structure Mod (M:aO->Prop) (h af:ah):Prop where
 next:h.next<=af.next
 get:∀b,Old h b->¬M b->af.get b=h.get b
theorem Mod.refl (M:aO->Prop) (h:ah):Mod M h h:=⟨ao1 _,fun _ _ _=>rfl⟩
theorem Mod.cr {M:aO->Prop} {h af:ah} (e:Mod M h af) {b:aO} (ai:Old h b):Old af b:=aqg ai e.next
theorem Mod.trans {M:aO->Prop} {h af tE:ah} (e:Mod M h af) (fk:Mod M af tE):Mod M h tE:=
 ⟨ao6 e.next fk.next,fun b ai hm=>(fk.get b (e.cr ai) hm).trans (e.get b ai hm)⟩
theorem Mod.mono {M L2:aO->Prop} {h af:ah} (e:Mod M h af) (hm:∀b,Old h b->M b->L2 b):Mod L2 h af:=
 ⟨e.next,fun b ai aF=>e.get b ai fun q=>aF (hm b ai q)⟩
theorem Mod.new {M:aO->Prop} {h af:ah} (e:Mod M h af) (k:c'):Mod M h (af.new k):=
 ⟨Nat.le_succ_of_le e.next,fun b ai hm=>by rw [k6,ao_ (fun q=>(J8 (h:=h) ai e.next) ▸ q)];exact e.get b ai hm⟩
theorem Mod.set {M:aO->Prop} {h af:ah} (e:Mod M h af) {b:aO} (ai:Old h b->M b) (k:c'):Mod M h (af.set b k):=
 ⟨e.next,fun cp iD hm=>by
   rw [eC];by_cases q:b=cp
   . subst q;exact absurd (ai iD) hm
   . rw [ao_ q];exact e.get cp iD hm⟩
theorem Ext.mod {h af:ah} (e:Ext h af) (M:aO->Prop):Mod M h af:=⟨e.next,fun b ai _=>e.get b ai⟩
theorem Ext.lg {h af tE:ah} (e:Ext h af) {M:aO->Prop} (m:Mod M af tE) (hm:∀b,M b->h.next<=dP b):Ext h tE:=
 ⟨ao6 e.next m.next,fun b ai=>by
   have qD:¬M b:=fun q=>by have:=hm b q;unfold Old at ai;omega
   exact (m.get b (e.cr ai) qD).trans (e.get b ai)⟩
theorem Mod.at {M:aO->Prop} {h af:ah} (e:Mod M h af) {b:aO} {off:Nat} {aj:List V} (H:mU h b off aj) (hm:¬M b):mU af b off aj:=by obtain ⟨aL,us,ae,ag,ar⟩:=H;refine ⟨e.cr aL,us,?_,ag,ar⟩;unfold mo at ae ⊢;rw [e.get b aL hm];exact ae
theorem jJ {h:ah} {i:Nat} (aM:i<h.next):Old h (an i):=by unfold Old;rw [dk];exact aM
theorem xN {h:ah} {b:aO} {i:Nat} (ai:Old h b) (aM:h.next<=i):(b=an i)=False:=by apply apl;intro e;unfold Old at ai;rw [e,dk] at ai;omega
def V.bn:V->aO->Prop
 | .slice b _ _ _,cp=>cp=b
 | .gM b _ _ _,cp=>cp=b
 | _,_=>False
theorem hy.one {h:ah} {size:Nat} {v:V} {n:Nat} {aj:List V} (H:hy h size v n aj):v.one=true/\v.cells=[v]/\v.hZ=true:=by have q:=H.2;cases v<;>simp only at q<;>first | exact ⟨rfl,rfl,rfl⟩ | exact q.elim
theorem hy.mod {M:aO->Prop} {h af:ah} (e:Mod M h af) {size:Nat} {v:V} {n:Nat} {aj:List V} (H:hy h size v n aj) (hm:∀b,v.bn b->¬M b):hy af size v n aj:=by refine ⟨H.1,?_⟩;have e0:=H.2;cases v<;>simp only at e0 ⊢<;>first | exact e0 | exact ⟨e0.1,e.at e0.2 (hm _ rfl)⟩
theorem hy.cr {h:ah} {size:Nat} {v:V} {n:Nat} {aj:List V} (H:hy h size v n aj) {b:aO} (ai:v.bn b):Old h b:=by have e0:=H.2;cases v<;>simp only [V.bn] at e0 ai<;>first | (exact ai.elim) | (subst ai;exact e0.2.1)
def dK (B:Nat) (h:ah) (size:Nat) (v:V) (n:Nat) (aj:List V):Prop:=
 aj.length=n * size/\match v with
  | .cS=>n=0
  | .slice b off len cap=>len=n/\B<=dP b/\Old h b/\n<=cap/\cap<=top/\∃us dA st,h.get b=.bc us dA st/\off+cap * size<=us.length/\(us.drop off).take aj.length=aj
  | .gM b off len idx=>len=n/\B<=dP b/\Old h b/\off=0/\idx=0/\∃us st,h.get b=.bc us size st/\aj.length<=us.length/\us.take aj.length=aj
  | _=>False
theorem dK.v {B:Nat} {h:ah} {size:Nat} {v:V} {n:Nat} {aj:List V} (H:dK B h size v n aj):hy h size v n aj:=by
 obtain ⟨ae,ag⟩:=H;refine ⟨ae,?_⟩;cases v<;>simp only at ag ⊢<;>first | exact ag | skip
 . obtain ⟨ao,_,av,aC,_,us,dA,st,bs,ca,cD⟩:=ag;refine ⟨ao,av,us,.inr ⟨dA,st,bs⟩,?_,cD⟩;rw [ae];have:=apP size aC;omega
 . obtain ⟨ao,_,av,aC,_,us,st,bs,ca,cD⟩:=ag;subst aC;exact ⟨ao,av,us,.inr ⟨size,st,bs⟩,by omega,by simpa using cD⟩
theorem dK.base {B:Nat} {h:ah} {size:Nat} {v:V} {n:Nat} {aj:List V} (H:dK B h size v n aj) {b:aO} (ai:v.bn b):B<=dP b:=by have e0:=H.2;cases v<;>simp only [V.bn] at e0 ai<;>first | (exact ai.elim) | (subst ai;exact e0.2.1)
theorem dK.mono {B ia:Nat} {h:ah} {size:Nat} {v:V} {n:Nat} {aj:List V} (H:dK B h size v n aj) (cj:ia<=B):dK ia h size v n aj:=by refine ⟨H.1,?_⟩;have e0:=H.2;cases v<;>simp only at e0 ⊢<;>first | exact e0 | exact ⟨e0.1,ao6 cj e0.2.1,e0.2.2⟩
theorem dK.mod {M:aO->Prop} {h af:ah} (e:Mod M h af) {B size:Nat} {v:V} {n:Nat} {aj:List V} (H:dK B h size v n aj) (hm:∀b,v.bn b->¬M b):dK B af size v n aj:=by
 refine ⟨H.1,?_⟩;have e0:=H.2;cases v<;>simp only at e0 ⊢<;>first | exact e0 | skip
 . obtain ⟨ao,av,aC,bs,ca,us,dA,st,cD,dy⟩:=e0;exact ⟨ao,av,e.cr aC,bs,ca,us,dA,st,by rw [e.get _ aC (hm _ rfl)];exact cD,dy⟩
 . obtain ⟨ao,av,aC,bs,ca,us,st,cD,dy⟩:=e0;exact ⟨ao,av,e.cr aC,bs,ca,us,st,by rw [e.get _ aC (hm _ rfl)];exact cD,dy⟩
theorem dK.ext {h af:ah} (e:Ext h af) {B size:Nat} {v:V} {n:Nat} {aj:List V} (H:dK B h size v n aj):dK B af size v n aj:=
 H.mod (e.mod fun _=>False) fun _ _ q=>q
theorem agN {h:ah} {size:Nat} {v:V} {n:Nat} {aj:List V} (H:hy h size v n aj):qP v=some n:=by
 have e0:=H.2;cases v<;>simp only at e0<;>first
  | (rw [<-e0.1];rfl)
  | (subst e0;rfl)
  | (exact e0.elim)
theorem K7 {h:ah} {b:aO} {off size n:Nat} {aj:List V} (H:mU h b off aj) (aH:aj.length=n * size):q9 h size b off n=some aj:=by obtain ⟨_,us,ae,ag,ar⟩:=H;unfold q9;rw [ae.q7,show Nat.ble (off+n * size) us.length=true from by rw [apn];omega,Eg us _ off (by omega),<-aH,ar];rfl
theorem alE {h:ah} {size:Nat} {v:V} {n:Nat} {aj:List V} (H:hy h size v n aj):x_ h size v n=some aj:=by
 obtain ⟨ae,ag⟩:=H;cases v<;>simp only at ag<;>first
  | (exact ag.elim)
  | (obtain ⟨_,ar⟩:=ag;exact K7 ar ae)
  | (subst ag
     have:aj=[]:=aqh (by omega);subst this;rfl)
theorem dK.grown {B:Nat} {h:ah} {size:Nat} {aj:List V} {n:Nat} {st:Bool} (aH:aj.length=n * size) (cj:B<=h.next):dK B (h.new (.bc aj size st)) size (.gM (an h.next) 0 n 0) n aj:=
 ⟨aH,rfl,by rw [dk];exact cj,R0,rfl,rfl,aj,st,rA _,ao1 _,List.take_length⟩
theorem VX {h:ah} {size:Nat} {s x:V} {m:Nat} {aj:List V} (e0:hy h size x m aj) (hm:m<=top):l0 size s x h=(match s with
 | .cS=>wB size m aj h
 | .slice b off len cap=>wA size b off len cap m aj h
 | .gM b off len idx=>wz size b off len idx m aj h
 | _=>.fail):=by
 unfold l0;rw [agN e0];simp only;rw [alE e0];simp only;rw [show Nat.ble m top=true from by rw [apn];exact hm];rfl
theorem Tg (A:List V) (o:Nat) (W:List V) (h:o+W.length<=A.length) (q:Nat):(kh A o W)[q]? =if q<o then A[q]? else if q<o+W.length then W[q-o]? else A[q]? :=by
 have aH:(A.take o).length=o:=by rw [aqD];omega
 unfold kh;rw [apK];by_cases ch:q<o
 . rw [ape ch,apC (by omega),apS ch]
 . rw [ao_ ch,apJ (by omega),aH];by_cases c8:q<o+W.length
   . rw [ape c8,apC (by omega)]
   . rw [ao_ c8,apJ (by omega),ap5];congr 1;omega
theorem Th (A:List V) (o j:Nat) (L W:List V) (my:o+L.length<=A.length) (gN:(A.drop o).take L.length=L) (cY:j+W.length<=L.length):((kh A (o+j) W).drop o).take L.length=kh L j W:=by
 apply List.ext_getElem?;intro q;have aH:((A.drop o).take L.length)[q]? =L[q]? :=by rw [gN]
 rw [Tg L j W cY];by_cases aI:q<L.length
 . rw [apS aI,ap5,Tg A (o+j) W (by omega)];rw [apS aI,ap5] at aH;by_cases ch:q<j
   . rw [ape (by omega),ape ch,aH]
   . rw [ao_ (by omega),ao_ ch];by_cases c8:q<j+W.length
     . rw [ape (by omega),ape c8];congr 1;omega
     . rw [ao_ (by omega),ao_ c8,aH]
 . rw [List.getElem?_take_eq_none (by omega),ao_ (by omega),ao_ (by omega),apv (by omega)]
theorem GZ {B:Nat} {h:ah} {size:Nat} {s x:V} {n m:Nat} {us aj:List V} (dS:1<=size) (H1:dK B h size s n us) (e0:hy h size x m aj) (cj:B<=h.next) (hlen:(n+m) * size<=top) (bJ:hE aj=true):
 ∃v af,l0 size s x h=.val v af/\dK B af size v (n+m) (us++aj)/\Mod s.bn h af/\∀b,v.bn b->s.bn b\/h.next<=dP b:=by
 have qD:n+m<=top:=ao6 (Nat.le_mul_of_pos_right _ dS) hlen;have mB:=H1.1;have nI:=e0.1;have jc:(us++aj).length=(n+m) * size:=by rw [apb,mB,nI,apW]
 rw [VX e0 (by omega)];have ag:=H1.2;cases s<;>simp only at ag ⊢<;>try (exact ag.elim)
 case cS=>
  subst ag;have:us=[]:=aqh (by omega);subst this;unfold wB;by_cases hm:m=0
  . subst hm;have:aj=[]:=aqh (by omega);subst this;exact ⟨.cS,h,rfl,⟨by simp,rfl⟩,Mod.refl _ _,fun b ai=>.inl ai⟩
  . rw [show Nat.beq m 0=false from by rw [<-Bool.not_eq_true,apz];exact hm];simp only [apg];rw [JV (by rw [nI];simpa using hlen) dS];refine ⟨_,_,rfl,?_,(Mod.refl _ _).new _,fun b ai=>.inr (by rw [show b=an h.next from ai,dk];exact ao1 _)⟩;have:=dK.grown (B:=B) (h:=h) (size:=size) (aj:=aj) (n:=m) (st:=false) nI cj;simpa using this
 case slice b off len cap=>
  obtain ⟨rfl,av,aC,bs,ca,mR,dA,st,cD,dy,dH⟩:=ag;unfold wA;by_cases ax:len+m<=cap
  . rw [show Nat.ble (len+m) cap=true from by rw [apn];exact ax];simp only [apc];have gF:off+len * size+aj.length<=mR.length:=by
     have:=apP size ax;rw [apW] at this;rw [nI];omega
    rw [Own.lay (aj:=mR) (dA:=dA) (st:=st) cD gF bJ];refine ⟨_,_,rfl,⟨jc,rfl,av,aC,ax,ca,_,dA,st,eC _ _ _ |>.trans (ape rfl),?_,?_⟩,(Mod.refl (V.bn (.slice b off len cap)) h).set (fun _=>rfl) _,fun cp ai=>.inl ai⟩
    . rw [s3 _ _ _ gF];exact dy
    . rw [apb];unfold kh;have hK:off+us.length<=mR.length:=by rw [mB];omega
      have aP:mR.take (off+len * size)=mR.take off++us:=by rw [<-mB,List.take_add,dH]
      rw [aP,apK,apK,List.drop_append,apI (by rw [aqD];omega),apx];rw [show off - (mR.take off).length=0 from by rw [aqD];omega,apT];rw [<-List.append_assoc,List.take_left' (by rw [apb])]
  . rw [show Nat.ble (len+m) cap=false from by rw [<-Bool.not_eq_true,apn];exact ax];simp only [apg];rw [show (Nat.ble (len+m) top&&Nat.ble cap top)=true from by simp only [ao7,apn];exact ⟨qD,ca⟩];simp only [apc];have Ik:mU h b off us:=⟨aC,mR,.inr ⟨dA,st,cD⟩,by rw [mB];have:=apP size bs;omega,dH⟩;rw [K7 Ik mB];simp only;rw [JV (by rw [jc];exact hlen) dS];exact ⟨_,_,rfl,dK.grown jc cj,(Mod.refl _ _).new _,fun b ai=>.inr (by rw [show b=an h.next from ai,dk];exact ao1 _)⟩
 case gM b off len idx=>
  obtain ⟨rfl,av,aC,rfl,rfl,mR,st,cD,dy,dH⟩:=ag;unfold wz;by_cases hm:m=0
  . subst hm;have:aj=[]:=aqh (by omega);subst this;exact ⟨_,h,rfl,⟨jc,rfl,av,aC,rfl,rfl,mR,st,cD,by simpa using dy,by simpa using dH⟩,Mod.refl _ _,fun b ai=>.inl ai⟩
  . rw [show Nat.beq m 0=false from by rw [<-Bool.not_eq_true,apz];exact hm];simp only [apg];rw [cD];simp only [c'.bc,c'.on];rw [show (Nat.beq size size&&(Nat.ble (len+m) top&&hE aj)&&Nat.beq 0 (0 * size))=true from by
     simp only [ao7,apz,apn]
     exact ⟨⟨trivial,qD,bJ⟩,by omega⟩]
    simp only [apc];have Ik:mU h b 0 us:=⟨aC,mR,.inr ⟨size,st,cD⟩,by omega,by simpa using dH⟩;rw [K7 Ik mB];simp only;rw [JV (by rw [jc];exact hlen) dS];exact ⟨_,_,rfl,dK.grown (h:=h.set b .dead) jc cj,((Mod.refl (V.bn (.gM b 0 len 0)) h).set (fun _=>rfl) _).new _,fun cp ai=>.inr (by rw [show cp=an h.next from ai,dk];exact ao1 _)⟩
theorem dK.put {B:Nat} {h:ah} {size:Nat} {v:V} {n:Nat} {aj:List V} (H:dK B h size v n aj) {i:Nat} (aM:i<n) {k:IntKind} {y:V} (bm:y.cells.length=size) (bJ:hE y.cells=true):
 ∃b off af,mG size v (.int k i)=some (.ptr b (off+i * size))/\v.bn b/\q' size h (.ptr b (off+i * size)) y=some af/\dK B af size v n (kh aj (i * size) y.cells)/\Mod v.bn h af:=by
 obtain ⟨ae,ag⟩:=H;have a1:i * size+size<=n * size:=by have:=apP size (show i+1<=n from aM);rw [apW] at this;omega
 cases v<;>simp only at ag<;>try (first | omega | exact ag.elim)
 case slice b off len cap=>
  obtain ⟨rfl,av,aC,bs,ca,mR,dA,st,cD,dy,dH⟩:=ag;have ax:=apP size bs;have gF:off+i * size+y.cells.length<=mR.length:=by rw [bm];omega
  refine ⟨b,off,_,?_,rfl,Own.store (aj:=mR) (dA:=dA) (st:=st) cD bm (by rw [bm] at gF;exact gF) bJ,⟨?_,rfl,av,aC,bs,ca,_,dA,st,eC _ _ _ |>.trans (ape rfl),?_,?_⟩,(Mod.refl (V.bn (.slice b off len cap)) h).set (fun _=>rfl) _⟩
  . rw [Jr,ape (by omega)];simp
  . rw [s3 _ _ _ (by rw [bm,ae];omega)];exact ae
  . rw [s3 _ _ _ gF];exact dy
  . rw [s3 _ _ _ (by rw [bm,ae];omega)];exact Th mR off (i * size) aj y.cells (by rw [ae];omega) dH (by rw [bm,ae];omega)
 case gM b off len idx=>
  obtain ⟨rfl,av,aC,rfl,rfl,mR,st,cD,dy,dH⟩:=ag;have gF:i * size+y.cells.length<=aj.length:=by rw [bm,ae];omega
  have B8:0+i * size+y.cells.length<=mR.length:=by omega
  refine ⟨b,0,_,?_,rfl,Own.store (aj:=mR) (dA:=size) (st:=st) cD bm (by rw [bm] at B8;exact B8) bJ,⟨?_,rfl,av,aC,rfl,rfl,_,st,eC _ _ _ |>.trans (ape rfl),?_,?_⟩,(Mod.refl (V.bn (.gM b 0 len 0)) h).set (fun _=>rfl) _⟩
  . rw [Jq,ape (by omega)];simp
  . rw [s3 _ _ _ gF];exact ae
  . rw [s3 _ _ _ gF,s3 _ _ _ B8];exact dy
  . rw [s3 _ _ _ gF];have:=Th mR 0 (i * size) aj y.cells (by omega) (by simpa using dH) gF;simpa using this
theorem aiR (r:a6):aZ.opt r none=none:=(rfl)
theorem aiS (r:a6) (x:aZ):aZ.opt r (some x)=some (x.aV r):=(rfl)
theorem MC (d y:Nat):bound none d y=some d:=rfl
theorem ahP (b:aO) (o:Nat):vH (.ptr b o)=some (.ptr b o):=rfl
theorem ahs (k bZ:IntKind) (a b:Int):mL (fun b a=>!Int.leB a b) [.int k a,.int bZ b]=some (.int k (if b<a then b else a)):=by
 simp only [mL,x3,V.fM,sP];by_cases h:b<a
 . rw [ape h];have:¬a<=b:=by omega
   simp [this]
 . rw [ao_ h];have:a<=b:=by omega
   simp [this]
theorem JR (k bZ:IntKind) (a b:Int):mL (fun b a=>!Int.leB b a) [.int k a,.int bZ b]=some (.int k (if a<b then b else a)):=by
 simp only [mL,x3,V.fM,sP];by_cases h:a<b
 . rw [ape h];have:¬b<=a:=by omega
   simp [this]
 . rw [ao_ h];have:b<=a:=by omega
   simp [this]
theorem mU.cell {h:ah} {b:aO} {off:Nat} {aj:List V} (H:mU h b off aj) {i j n:Nat} {ws:List V} (hw:(aj.drop i).take n=ws) (aM:i+n<=aj.length) (cY:j<n):hc (h.get b) (off+i+j)=ws[j]? :=by rw [apU,H.la (by omega),<-hw,apS cY,ap5,ao3]
end
section
open Go Go.RowKit Go.ChangeShapes Go.WideShapes
variable [Lay]
section
variable {H:Type} {enc:TypeId × Value->H} {P:Program}
end
end
section
open Go Go.RowKit
variable [Lay]
theorem bE.below {aB:Fr} {E:Env} {h:ah} {w w':World} (s:bE aB E h w) (ai:Below w.heap.size w w'):bE aB E h w':=by
 have dS:aB.w.heap.size<=w.heap.size:=s.frame.size;have h4:∀(k:Nat) (o:Obj),w.heap[k]? =some o->w'.heap[k]? =some o:=by
  intro k o aD;rw [ai.block k,aD];by_cases a1:k<w.heap.size
  . exact a1
  . rw [aqo (by omega)] at aD;cases aD
 refine ⟨fun b aG=>?_,s.r0,s.inj,s.fresh,s.frame.trans (ai.mono dS),s.laid,s.base⟩;have:=s.bn b aG;cases aD:h.get b<;>rw [aD] at this<;>simp only [jm] at this ⊢
 . obtain ⟨ao,p,c,el,cK,av,aC,bs,ca⟩:=this;exact ⟨ao,p,c,el,cK,av,aC,h4 _ _ bs,ca⟩
 . obtain ⟨ao,p,c,el,cK,av,aC,bs,ca⟩:=this;exact ⟨ao,p,c,el,cK,av,aC,h4 _ _ bs,ca⟩
 . obtain ⟨p,ao,av,aC,bs⟩:=this;exact ⟨p,ao,av,aC,h4 _ _ bs⟩
 . obtain ⟨p,a,ao,av,aC,bs⟩:=this;exact ⟨p,a,ao,av,h4 _ _ aC,bs⟩
 . obtain ⟨p,o,ao,av,aC,bs⟩:=this;exact ⟨p,o,ao,av,h4 _ _ aC,bs⟩
 . obtain ⟨p,ao,av,aC⟩:=this;exact ⟨p,ao,av,h4 _ _ aC⟩
 . obtain ⟨p,a,c,l,ao,av,aC,bs⟩:=this;exact ⟨p,a,c,l,ao,av,h4 _ _ aC,bs⟩
 . obtain ⟨p,m,a,ao,av,aC,bs,ca⟩:=this;exact ⟨p,m,a,ao,av,aC,h4 _ _ bs,ca⟩
theorem akR {H:Type} {enc:TypeId × Value->H} {a:Assume} {C:Checked} {os:Os} {f:FuncId} {fn:Func} {s:ChangeSpec} {conds:List PathCond} {apart fresh handsOn again:Bool} {X:World->Array Value->Prop}
 (di:∀(w w':World) (args:Array Value),w.heap=w'.heap->X w args->X w' args)
 (own:ownKnob C.prog.godebug=none) (started:os.Started) (ahQ:C.prog.inits.idxOf? f=none) (l4:C.prog.funcs[f]? =some fn)
 (witness:∃(w:World) (tape:Tape) (i:Input),w.os=os/\(w.forCall tape i).Shaped C.prog/\i.vars=[]/\Input.okWide C.prog (w.forCall tape i) .any w.heap.size f i/\
   ((s.pre enc C.prog fn conds apart (w.forCall tape i).memory i.args/\X (w.forCall tape i).memory i.args)/\sizedMet enc C.prog fn (OpenSpec.ofChange s) apart (w.forCall tape i).memory i.args)/\a.holds C.prog (lone (Frame.enter C.prog f i.args .normal) [] (w.forCall tape i)))
 (ZJ:∀(W:World) (base:Nat) (args:Array Value) (ds gs:List (DataW H)) (before:List MemPlace),
   (∀(j:Nat) t v,fn.params[j]? =some t->args[j]? =some v->Value.okWide C.prog W .any base t v)->
   DataW.Whole enc C.prog fn.params.toList s.vars apart W args.toList ds gs before->
   X W args->W.ShapedOpen C.prog->
   Calls C.prog f args W fun e ri=>∃v,e=.returned v/\s.post enc C.prog fn apart fresh handsOn again W args v ri):
 ReturnsInHanded a C os f .any (fun w args=>(s.pre enc C.prog fn conds apart w args/\X w args)/\sizedMet enc C.prog fn (OpenSpec.ofChange s) apart w args) (s.post enc C.prog fn apart fresh handsOn again):=by
 refine returnsInHanded_of_calls own started ahQ witness ?_;intro w tape i _ xo _ br lC an3;obtain ⟨_,_,_,HV,acQ,_,_,_,_,Cd⟩:=br;have e:HV=fn:=aqu (acQ.symm.trans l4);subst e;obtain ⟨⟨⟨ds,gs,before,hw,ax⟩,au⟩,bN⟩:=lC;have Ce:=DataW.Whole.of_heap (w':=w.forCall tape i) (by rfl) hw;refine (ZJ (w.forCall tape i) w.heap.size i.args ds gs before Cd Ce (di _ _ _ (by rfl) au) xo).mono fun e ri ⟨v,he,aG⟩=>?_;subst he;exact ChangeSpec.post_blind aG
def s7 (E:Env) (h:ah) (p:kI):Env:=fun b=>if b=an h.next then some p else E b
theorem TV (E:Env) (h:ah) (p:kI):s7 E h p (an h.next)=some p:=ape rfl
theorem Lq {aB:Fr} {E:Env} {h:ah} {w:World} (s:bE aB E h w) (p:kI):E.le (s7 E h p):=fun b q aI=>by unfold s7;rw [ao_ (fun e=>by rw [e,s.fresh _ (ao1 _)] at aI;cases aI)];exact aI
theorem als {W:World} {E:Env} {h:ah} (s:bE ⟨W,fun _=>none⟩ E h W) (p:kI) (k:c') (bJ:k.own=false) (aD:jm W.heap.size (s7 E h p) W (an h.next) k):
 bE ⟨W,fun _=>none⟩ (s7 E h p) (h.new k) W:=by
 refine ⟨fun b _=>?_,fun _ _ h=>(by cases h),fun b cp q gi ae ag aP bu aI=>?_,fun i aM=>?_,s.frame,s.laid,fun b q n cs st ae aP=>by
  rw [k6] at ae;by_cases ch:an h.next=b
  . rw [ape ch] at ae;rw [ae] at bJ;cases bJ
  . rw [ao_ ch] at ae;unfold s7 at aP;rw [ao_ (fun e=>ch e.symm)] at aP;exact s.base _ _ _ _ _ ae aP⟩
 . rw [k6];by_cases e:an h.next=b
   . subst e;rw [ape rfl];exact aD
   . rw [ao_ e];exact (s.bn b rfl).mono (Lq s p)
 . rw [k6] at ae ag;by_cases ch:an h.next=b
   . rw [ape ch,bJ] at ae;cases ae
   . by_cases c8:an h.next=cp
     . rw [ape c8,bJ] at ag;cases ag
     . rw [ao_ ch] at ae;rw [ao_ c8] at ag;unfold s7 at aP bu;rw [ao_ (fun e=>ch e.symm)] at aP;rw [ao_ (fun e=>c8 e.symm)] at bu;exact s.inj b cp q gi ae ag aP bu aI
 . rw [hV] at aM;unfold s7;rw [ao_ (fun e=>by have:=nT e;omega)];exact s.fresh i (by omega)
theorem alu {W:World} {E:Env} {h:ah} (s:bE ⟨W,fun _=>none⟩ E h W) {k base cap:Nat} {c:Array Value} {el:TypeId} {cK:Nat × Nat} (aD:W.heap[k]? =some (.cells c el cK)) {aj:List V}
 (ax:base+aj.length<=c.size) (U:∀i v y,aj[i]? =some v->c[base+i]? =some y->Rel E v y):
 bE ⟨W,fun _=>none⟩ (s7 E h ⟨k,base,cap⟩) (h.new (.ro aj)) W:=by
 refine als s _ _ rfl ?_;have a1:k<W.heap.size:=by
  by_cases a1:k<W.heap.size
  . exact a1
  . rw [aqo (by omega)] at aD;cases aD
 refine ⟨trivial,⟨k,base,cap⟩,c,el,cK,TV _ _ _,a1,aD,ax,fun i y aM bm=>?_⟩;have:T.get .bad (an i) (hM .e 0 aj)=aj[i]:=by have:=H6 aj 0 i .e;rw [apH] at this;rw [this,ape aM,ao3 aM];rfl
 rw [this];exact Rel.mono (Lq s _) _ _ (U i _ y (ao3 aM) bm)
end
section
open Go Go.RowKit
variable [Lay]
section
variable (P:Program)
def Au:List Field->Nat->Option Nat
 | [],o=>some o
 | f::dn,o=>if f.offset=o then Au dn (o+P.cellsOf f.type) else none
def ye:Bool:=(List.range P.types.size).all fun t=>match P.underlying t with
 | some (.struct dn)=>decide (Au P dn.toList 0=some (P.cellsOf t))
 | _=>true
def fB (h:ah):Nat->Nat->TypeId->List V->Prop
 | 0,_,_,_=>False
 | n+1,m,t,aj=>match P.underlying t with
   | some .bool=>∃b,aj=[.bool b]
   | some (.int k)=>∃i,aj=[.int k i]/\(Lit.int k i).wf=true
   | some .string=>∃s:List UInt8,aj=[.str s]/\s.length+1<=m
   | some (.slice e)=>1<=m/\(aj=[.cS]\/(∃b i j k,aj=[.kG b i j k])\/P.cellsOf e=0\/
      ∃b len cap,aj=[.slice b 0 len cap]/\0<len/\len<=cap/\Old h b/\∃us,mo h b us/\us.length=len * P.cellsOf e/\∃ms:List Nat,ms.length=len/\ms.sum+1<=m/\
       ∀(i k:Nat),ms[i]? =some k->1<=k/\fB h n k e ((us.drop (i * P.cellsOf e)).take (P.cellsOf e)))
   | some (.struct dn)=>aj.length=P.cellsOf t/\∃ms:List Nat,ms.length=dn.toList.length/\ms.sum+1<=m/\∀(i:Nat) (f:Field) (k:Nat),dn.toList[i]? =some f->ms[i]? =some k->1<=k/\fB h n k f.type ((aj.drop f.offset).take (P.cellsOf f.type))
   | some (.pointer e)=>1<=m/\(aj=[.qV]\/P.cellsOf e=0\/∃b,aj=[.ptr b 0]/\Old h b/\∃us,mo h b us/\us.length=P.cellsOf e/\∃k,k+1<=m/\fB h n k e us)
   | some (.map _ _)=>aj=[.qU]\/aj=[.bad]
   | some (.interface _)=>aj=[.nilIface]\/aj=[.bad]
   | _=>True
end
theorem fB.ext {P:Program} {h af:ah} (e:Ext h af):∀(n m:Nat) (t:TypeId) (aj:List V),fB P h n m t aj->fB P af n m t aj
 | 0,_,_,_,H=>H
 | n+1,m,t,aj,H=>by
   unfold fB at H ⊢
   split at H<;>try exact H
   . refine ⟨H.1,?_⟩;rcases H.2 with H | H | H | ⟨b,len,cap,ae,ag,ar,bC,us,dr,dZ,ms,hT,fP,jH⟩
     . exact .inl H
     . exact .inr (.inl H)
     . exact .inr (.inr (.inl H))
     . exact .inr (.inr (.inr ⟨b,len,cap,ae,ag,ar,e.cr bC,us,e.rd bC dr,dZ,ms,hT,fP,fun i k aD=>⟨(jH i k aD).1,fB.ext e n _ _ _ (jH i k aD).2⟩⟩))
   . obtain ⟨ae,ms,ag,ar,aT⟩:=H;exact ⟨ae,ms,ag,ar,fun i f k aE aD=>⟨(aT i f k aE aD).1,fB.ext e n _ _ _ (aT i f k aE aD).2⟩⟩
   . refine ⟨H.1,?_⟩;rcases H.2 with H | H | ⟨b,ae,bC,us,dr,dZ,k,hT,fP⟩
     . exact .inl H
     . exact .inr (.inl H)
     . exact .inr (.inr ⟨b,ae,e.cr bC,us,e.rd bC dr,dZ,k,hT,fB.ext e n _ _ _ fP⟩)
mutual
def jC {H:Type}:DataW H->Nat
 | .lit (.string bytes)=>bytes.length+1
 | .lit _=>1
 | .nil=>1
 | .ptr d=>jC d+1
 | .slice elems spare=>qv elems+qv spare+1
 | .agg parts=>qv parts+1
 | .iface _ d=>jC d+1
 | .map entries=>MF entries+1
 | .held _=>1
def qv {H:Type}:List (DataW H)->Nat
 | []=>0
 | d::r=>jC d+qv r
def MF {H:Type}:List (Lit × DataW H)->Nat
 | []=>0
 | x::r=>WR x+MF r
def WR {H:Type}:Lit × DataW H->Nat
 | (.string bytes,d)=>bytes.length+jC d+1
 | (_,d)=>jC d+1
end
theorem tu {H:Type} (d:DataW H):1<=jC d:=by
 cases d with
 | lit l=>cases l<;>simp [jC]
 | _=>simp [jC]
theorem G' {H:Type}:∀l:List (DataW H),qv l=(l.map jC).sum
 | []=>by simp [qv]
 | d::r=>by simp only [qv,aqA,List.sum_cons,G' r]
theorem DO {w:World} {base:Nat} {a:Addr} {n:Nat} {l:List Value} (h:w.cells? base a n=some l):l.length=n/\∀i,i<n->w.cell? (a.add i)=l[i]? :=by
 unfold World.cells? at h
 split at h
 . exact ⟨by simpa using mapM_some_length h,fun i aM=>mapM_some_get h i i (by simp [aM])⟩
 . cases h
theorem SU {E aw:Env} (he:E.le aw) {aj:List V} {l:List Value} (H:bI E aj l):bI aw aj l:=bI.mono he aj l H
section
variable {H:Type} {enc:TypeId × Value->H} {P:Program} {W:World} {base:Nat} {sp:Nat->Bool} {held:Bool}
def Lays (P:Program) (W:World) (n m:Nat) (t:TypeId) (cs:List Value):Prop:=
 ∀(E:Env) (h:ah),bE ⟨W,fun _=>none⟩ E h W->∃aw af aj,E.le aw/\Ext h af/\bE ⟨W,fun _=>none⟩ aw af W/\bI aw aj cs/\aj.length=cs.length/\fB P af n m t aj
theorem Ra (n size:Nat) (e:TypeId):∀(pieces:List (List Value)) (ms:List Nat),ms.length=pieces.length->(∀(i:Nat) (l:List Value) (k:Nat),pieces[i]? =some l->ms[i]? =some k->l.length=size/\Lays P W n k e l)->
 ∀(E:Env) (h:ah),bE ⟨W,fun _=>none⟩ E h W->∃aw af us,E.le aw/\Ext h af/\bE ⟨W,fun _=>none⟩ aw af W/\bI aw us pieces.flatten/\us.length=pieces.length * size/\
  ∀(i k:Nat),ms[i]? =some k->fB P af n k e ((us.drop (i * size)).take size)
 | [],[],_,_,E,h,s=>⟨E,h,[],fun _ _ q=>q,Ext.refl h,s,rfl,by simp,fun i k aM=>by simp at aM⟩
 | [],_::_,aH,_,_,_,_=>by simp at aH
 | _::_,[],aH,_,_,_,_=>by simp at aH
 | l::ls,m::ms,l7,aG,E,h,s=>by
   obtain ⟨aH,H⟩:=aG 0 l m rfl rfl;obtain ⟨kH,ae,aj,cM,a2,a3,a4,a5,nD⟩:=H E h s;obtain ⟨bY,ag,us,bW,df,ic,oU,pM,ts⟩:=Ra n size e ls ms (by simpa using l7) (fun i l k ao av=>aG (i+1) l k (by simpa using ao) (by simpa using av)) kH ae a3;refine ⟨bY,ag,aj++us,cM.trans bW,a2.trans df,ic,?_,?_,?_⟩
   . rw [aqb];exact bI.append (SU bW a4) oU
   . rw [apb,pM,a5,aH,ao9,apW];omega
   . intro i k aM;cases i with
     | zero=>
       rw [Nat.zero_mul,apT,List.take_left' (by rw [a5,aH])];simp only [apj,ao4] at aM;subst aM;exact fB.ext df _ _ _ _ nD
     | succ i=>
       rw [apW,Nat.one_mul,Nat.add_comm,<-List.drop_drop,List.drop_left' (by rw [a5,aH])];exact ts i k (by simpa using aM)
theorem Q_ (n:Nat):∀(dn:List Field) (ms:List Nat) (o dT:Nat) (cs:List Value),Au P dn o=some dT->cs.length=dT->ms.length=dn.length->(∀(i:Nat) (f:Field) (k:Nat),dn[i]? =some f->ms[i]? =some k->Lays P W n k f.type ((cs.drop f.offset).take (P.cellsOf f.type)))->
 o<=dT/\∀(E:Env) (h:ah),bE ⟨W,fun _=>none⟩ E h W->∃aw af aj,E.le aw/\Ext h af/\bE ⟨W,fun _=>none⟩ aw af W/\bI aw aj (cs.drop o)/\aj.length=dT-o/\
  ∀(i:Nat) (f:Field) (k:Nat),dn[i]? =some f->ms[i]? =some k->o<=f.offset/\fB P af n k f.type ((aj.drop (f.offset-o)).take (P.cellsOf f.type))
 | [],_::_,_,_,_,_,_,l7,_=>by simp at l7
 | _::_,[],_,_,_,_,_,l7,_=>by simp at l7
 | [],[],o,dT,cs,az,aH,_,_=>by simp only [Au,ao4] at az;subst az;refine ⟨ao1 _,fun E h s=>⟨E,h,[],fun _ _ q=>q,Ext.refl h,s,?_,by simp,fun i f k aE=>by simp at aE⟩⟩;rw [apI (by omega)];rfl
 | f::dn,m::ms,o,dT,cs,az,aH,l7,aG=>by
   simp only [Au] at az;by_cases aE:f.offset=o
   . rw [ape aE] at az;obtain ⟨g1,g2⟩:=Q_ n dn ms (o+P.cellsOf f.type) dT cs az aH (by simpa using l7) (fun i f k ao av=>aG (i+1) f k (by simpa using ao) (by simpa using av));refine ⟨by omega,fun E h s=>?_⟩;have I5:=aG 0 f m rfl rfl;obtain ⟨kH,ae,aj,cM,a2,a3,a4,a5,nD⟩:=I5 E h s;obtain ⟨bY,ag,us,bW,df,ic,oU,pM,ts⟩:=g2 kH ae a3;have Jj:aj.length=P.cellsOf f.type:=by rw [a5,aqD,apr,aE];omega
     refine ⟨bY,ag,aj++us,cM.trans bW,a2.trans df,ic,?_,?_,?_⟩
     . have e:cs.drop o=(cs.drop f.offset).take (P.cellsOf f.type)++cs.drop (o+P.cellsOf f.type):=by
        rw [aE,<-List.drop_drop,List.take_append_drop]
       rw [e];exact bI.append (SU bW a4) oU
     . rw [apb,Jj,pM];omega
     . intro i g k ay aD;cases i with
       | zero=>
         simp only [apj,ao4] at ay aD;subst ay aD;refine ⟨by omega,?_⟩;rw [aE,aqs,apT,List.take_left' Jj];exact fB.ext df _ _ _ _ nD
       | succ i=>
         obtain ⟨ch,c8⟩:=ts i g k (by simpa using ay) (by simpa using aD);refine ⟨by omega,?_⟩;rw [show g.offset-o=P.cellsOf f.type + (g.offset - (o+P.cellsOf f.type)) from by omega,<-List.drop_drop,List.drop_left' Jj];exact c8
   . rw [ao_ aE] at az;cases az
theorem OE {w:World} {a:Addr} {y:Value} (h:w.cell? a=some y):a.spot=none/\∃c el cK,w.heap[a.block]? =some (.cells c el cK)/\c[a.off]? =some y:=by
 refine ⟨World.cell?_spot h,?_⟩;unfold World.cell? at h
 split at h
 . rename_i c el cK bM
   split at h
   . cases h
   . exact ⟨c,el,cK,bM,h⟩
 . cases h
theorem VO (a:Addr) (n:Nat):(a.add n).block=a.block:=by unfold Addr.add;split<;>rfl
theorem VP (a:Addr) (n:Nat):(a.add n).off=a.off+n:=by unfold Addr.add;split<;>simp_all
theorem akV {w:World} {a:Addr} {l:List Value} (aL:0<l.length) (h:∀i,i<l.length->w.cell? (a.add i)=l[i]?):
 a.spot=none/\∃c el cK,w.heap[a.block]? =some (.cells c el cK)/\a.off+l.length<=c.size/\∀i,i<l.length->c[a.off+i]? =l[i]? :=by
 have acx:w.cell? (a.add 0)=some l[0]:=by rw [h 0 aL];exact ao3 aL
 obtain ⟨s1,c,el,cK,s2,S8⟩:=OE acx;have ek:a.add 0=a:=by unfold Addr.add;simp
 rw [ek] at s1 s2 S8;have key:∀i,i<l.length->c[a.off+i]? =l[i]? :=by intro i aM;have q:=h i aM;rw [ao3 aM] at q ⊢;obtain ⟨_,eX,anL,anM,t2,t3⟩:=OE q;rw [VO,s2] at t2;rw [VP] at t3;simp only [ao4,Obj.cells.injEq] at t2;obtain ⟨rfl,_,_⟩:=t2;exact t3
 refine ⟨s1,c,el,cK,s2,?_,key⟩;have:=key (l.length-1) (by omega);rw [ao3 (by omega)] at this;have a1:=(ao5.1 this).1;omega
theorem TW {E:Env} {h:ah} (s:bE ⟨W,fun _=>none⟩ E h W) {a:Addr} {cap:Nat} {l:List Value} (aL:0<l.length) (ax:∀i,i<l.length->W.cell? (a.add i)=l[i]?) {us:List V} (U:bI E us l):
 ∃aw af b,E.le aw/\Ext h af/\bE ⟨W,fun _=>none⟩ aw af W/\Old af b/\a.spot=none/\aw b=some ⟨a.block,a.off,cap⟩/\mo af b us:=by
 obtain ⟨s1,c,el,cK,s2,S8,KZ⟩:=akV aL ax;have EP:us.length=l.length:=(bI.length U).symm;refine ⟨s7 E h ⟨a.block,a.off,cap⟩,h.new (.ro us),an h.next,Lq s _,(Ext.refl h).new _,alu s s2 (by omega) fun i v y b0 bm=>?_,R0,s1,TV _ _ _,.inl (rA _)⟩;have aM:i<l.length:=by have:=(apL.1 b0).1;omega
 rw [KZ i aM] at bm;obtain ⟨ra,aP,bu⟩:=bI.get U i v b0;rw [bm] at aP;simp only [ao4] at aP;rw [aP];exact bu
theorem PH {α:Type} (size:Nat):∀(pieces:List (List α)) (i j:Nat),(∀l ∈ pieces,l.length=size)->i<pieces.length->j<size->pieces.flatten[i * size+j]? =(pieces[i]?).bind (·[j]?)
 | [],i,j,_,aM,_=>by simp at aM
 | l::ls,i,j,aG,aM,cY=>by
   have aH:l.length=size:=aG l (by simp);cases i with
   | zero=>
     rw [Nat.zero_mul,apH,aqb,apC (by omega)];simp
   | succ i=>
     rw [aqb,apJ (by rw [aH,apW];omega)];rw [show (i+1) * size+j-l.length=i * size+j from by rw [aH,apW];omega];rw [PH size ls i j (fun l aH=>aG l (by simp [aH])) (by simpa using aM) cY];simp
theorem PI {α:Type} (size:Nat):∀(pieces:List (List α)),(∀l ∈ pieces,l.length=size)->pieces.flatten.length=pieces.length * size
 | [],_=>by simp
 | l::ls,aG=>by rw [aqb,apb,PI size ls (fun l aH=>aG l (by simp [aH])),aG l (by simp),ao9,apW];omega
theorem Sq {α:Type} (R:Nat->α->Prop):∀(len:Nat),(∀i,i<len->∃l,R i l)->∃bP:List α,bP.length=len/\∀i l,bP[i]? =some l->R i l
 | 0,_=>⟨[],rfl,fun i l q=>by simp at q⟩
 | m+1,h=>by
   obtain ⟨bP,ao,av⟩:=Sq R m (fun i aM=>h i (by omega));obtain ⟨l,ae⟩:=h m (by omega);refine ⟨bP++[l],by simp [ao],fun i eD j7=>?_⟩;by_cases aM:i<bP.length
   . rw [apC aM] at j7;exact av i eD j7
   . rw [apJ (by omega)] at j7;have ek:i-bP.length=0:=by
      by_cases q:i-bP.length=0
      . exact q
      . rw [apv (by simp;omega)] at j7;cases j7
     rw [ek] at j7;simp at j7;subst j7;obtain rfl:i=m:=by omega
     exact ae
theorem E2 (d_:ye P=true) (gN:laidOutB P=true):∀(n:Nat) (t:TypeId) (cs:List Value) (x:DataW H × List MemPlace),t<P.types.size->DataW.trod enc P W base sp held n t cs=some x->Lays P W n (jC x.1) t cs
 | 0,t,cs,x,_,h=>by simp [DataW.trod] at h
 | n+1,t,cs,x,a1,h=>by
   have DD:∀(cs:List Value),(∀af aj,aj.length=cs.length->fB P af (n+1) (jC x.1) t aj)->Lays P W (n+1) (jC x.1) t cs:=by
    intro cs H E h s;refine ⟨E,h,cs.map fun _=>.bad,fun _ _ q=>q,Ext.refl h,s,?_,by simp,H _ _ (by simp)⟩;clear H
    induction cs with
    | nil=>rfl
    | cons c cs b6=>exact ⟨c,cs,rfl,by simp [Rel],b6⟩
   cases hu:P.underlying t with
   | none=>
     refine DD cs fun af aj _=>?_;simp only [fB,hu]
   | some u=>
     cases u with
     | bool=>
       obtain ⟨b,rfl,_⟩:=DataW.trod_bool hu h;intro E h s;exact ⟨E,h,[.bool b],fun _ _ q=>q,Ext.refl h,s,⟨_,_,rfl,rfl,rfl⟩,rfl,by simp only [fB,hu];exact ⟨b,rfl⟩⟩
     | int k=>
       obtain ⟨i,rfl,_,hw⟩:=DataW.trod_int hu h;intro E h s;exact ⟨E,h,[.int k i],fun _ _ q=>q,Ext.refl h,s,⟨_,_,rfl,rfl,rfl⟩,rfl,by simp only [fB,hu];exact ⟨i,rfl,hw⟩⟩
     | string=>
       obtain ⟨b,rfl,rfl,_⟩:=DataW.trod_string hu h;intro E h s;exact ⟨E,h,[.str b.data.toList],fun _ _ q=>q,Ext.refl h,s,⟨_,_,rfl,rfl,rfl⟩,rfl,by simp only [fB,hu,jC];exact ⟨_,rfl,ao1 _⟩⟩
     | struct dn=>
       obtain ⟨xs,zU,aF,rfl,aH,zx,aE⟩:=DataW.trod_struct hu h;obtain rfl:n=zU:=by omega
       have adV:Au P dn.toList 0=some (P.cellsOf t):=by unfold ye at d_;rw [apA] at d_;have:=d_ t (aqB.2 a1);rw [hu] at this;exact of_decide_eq_true this
       have tJ:∀(i:Nat) (f:Field) (k:Nat),dn.toList[i]? =some f->(xs.map fun x=>jC x.1)[i]? =some k->Lays P W n k f.type ((cs.drop f.offset).take (P.cellsOf f.type)):=by
        intro i f k aM aD;have IB:f ∈ dn.toList:=aqi aM;have xa:dn[i]? =some f:=by simpa using aM
        have:=aE i f xa;have Ql:i<xs.length:=by rw [zx];exact (ao5.1 xa).1
        rw [ao3 Ql] at this;rw [apM,ao3 Ql,apZ,ao4] at aD;subst aD;exact E2 d_ gN n _ _ _ ((kid_struct gN a1 hu).1 f IB) this
       intro E h s;obtain ⟨_,g⟩:=Q_ n dn.toList (xs.map fun x=>jC x.1) 0 _ cs adV aH (by simp [zx]) tJ;obtain ⟨aw,af,aj,cM,a2,a3,a4,a5,nD⟩:=g E h s;refine ⟨aw,af,aj,cM,a2,a3,by simpa using a4,by rw [a5,aH];omega,?_⟩;simp only [fB,hu];refine ⟨by omega,xs.map fun x=>jC x.1,by simp [zx],?_,fun i f k IB aD=>⟨?_,by simpa using (nD i f k IB aD).2⟩⟩
       . simp only [jC,G',List.map_map];exact ao1 _
       . rw [apM,Option.map_eq_some_iff] at aD;obtain ⟨y,_,rfl⟩:=aD;exact tu _
     | slice e=>
       rcases DataW.trod_slice hu h with ⟨rfl,rfl⟩ | ⟨a,len,cap,elems,rest,zU,aF,rfl,rfl,ai,tR,_,Qc,acT,_,_⟩
       . intro E h s;exact ⟨E,h,[.cS],fun _ _ q=>q,Ext.refl h,s,⟨_,_,rfl,rfl,rfl⟩,rfl,by simp only [fB,hu];exact ⟨tu _,.inl trivial⟩⟩
       . obtain rfl:n=zU:=by omega
         by_cases al:P.cellsOf e=0
         . refine DD _ fun af aj _=>?_;simp only [fB,hu];exact ⟨tu _,.inr (.inr (.inl al))⟩
         by_cases tP:len=0
         . subst tP;intro E h s;refine ⟨E,h,[.kG .z 0 0 0],fun _ _ q=>q,Ext.refl h,s,⟨_,_,rfl,?_,rfl⟩,rfl,by simp only [fB,hu];exact ⟨tu _,.inr (.inl ⟨_,_,_,_,rfl⟩)⟩⟩;simp only [Rel];exact ⟨_,_,rfl⟩
         . -- its elements
           have oh:∀i,i<len->∃l,W.cells? base (a.add (i * P.cellsOf e)) (P.cellsOf e)=some l/\∀k:Nat,(elems.map fun x=>jC x.1)[i]? =some k->Lays P W n k e l:=by intro i aM;have:=acT i aM;rw [ao3 (by omega)] at this;rw [Option.bind_eq_some_iff] at this;obtain ⟨l,ae,ag⟩:=this;refine ⟨l,ae,fun k aD=>?_⟩;rw [apM,ao3 (by omega),apZ,ao4] at aD;subst aD;exact E2 d_ gN n _ _ _ (kid_slice gN a1 hu) ag
           obtain ⟨pieces,j',h7⟩:∃pieces:List (List Value),pieces.length=len/\∀i (l:List Value),pieces[i]? =some l->W.cells? base (a.add (i * P.cellsOf e)) (P.cellsOf e)=some l/\∀k:Nat,(elems.map fun x=>jC x.1)[i]? =some k->Lays P W n k e l:=by exact Sq (fun i l=>W.cells? base (a.add (i * P.cellsOf e)) (P.cellsOf e)=some l/\∀k:Nat,(elems.map fun x=>jC x.1)[i]? =some k->Lays P W n k e l) len oh
           have j_:∀(i:Nat) (l:List Value) (k:Nat),pieces[i]? =some l->(elems.map fun x=>jC x.1)[i]? =some k->l.length=P.cellsOf e/\Lays P W n k e l:=by intro i l k aM aD;obtain ⟨ao,av⟩:=h7 i l aM;exact ⟨(DO ao).1,av k aD⟩
           have Qv:∀l ∈ pieces,l.length=P.cellsOf e:=by intro l aH;obtain ⟨i,aM⟩:=List.getElem?_of_mem aH;exact (DO (h7 i l aM).1).1
           intro E h s;obtain ⟨kH,ae,us,cM,a2,a3,a4,a5,nD⟩:=Ra n (P.cellsOf e) e pieces (elems.map fun x=>jC x.1) (by simp [Qc,j']) j_ E h s;have tJ:=PI (P.cellsOf e) pieces Qv;have tT:0<len * P.cellsOf e:=Nat.mul_pos (by omega) (by omega);have Iq:∀i,i<pieces.flatten.length->W.cell? (a.add i)=pieces.flatten[i]? :=by
            intro q aI;rw [tJ] at aI;have Qq:q % P.cellsOf e<P.cellsOf e:=Nat.mod_lt _ (by omega);have hdiv:q / P.cellsOf e<pieces.length:=Nat.div_lt_of_lt_mul (by rw [Nat.mul_comm];exact aI);have Qy:q / P.cellsOf e * P.cellsOf e+q % P.cellsOf e=q:=by rw [Nat.mul_comm];exact Nat.div_add_mod q _
            rw [<-Qy,PH (P.cellsOf e) pieces _ _ Qv hdiv Qq,ao3 hdiv];obtain ⟨ao,_⟩:=h7 _ _ (ao3 hdiv);have:=(DO ao).2 _ Qq;rw [Option.bind_some,<-this];congr 1;unfold Addr.add;by_cases cZ:q / P.cellsOf e * P.cellsOf e=0
            . rw [cZ];simp
            . by_cases z2:q % P.cellsOf e=0
              . rw [z2];simp
              . have z3:¬(q / P.cellsOf e * P.cellsOf e+q % P.cellsOf e=0):=by omega
                rw [ao_ cZ,ao_ z2,ao_ z3];simp [apU]
           obtain ⟨bY,ag,b,bW,df,ic,oU,pM,ts,G4⟩:=TW a3 (cap:=cap) (by rw [tJ,j'];exact tT) Iq a4;refine ⟨bY,ag,[.slice b 0 len cap],cM.trans bW,a2.trans df,ic,⟨_,_,rfl,?_,rfl⟩,rfl,?_⟩
           . simp only [Rel];refine ⟨_,ts,tR,?_⟩;obtain ⟨WC,ah3,st⟩:=a;simp only at pM;subst pM;rfl
           . simp only [fB,hu];refine ⟨tu _,.inr (.inr (.inr ⟨b,len,cap,rfl,by omega,tR,oU,us,G4,by rw [a5,j'],elems.map fun x=>jC x.1,by simp [Qc],?_,fun i k aD=>⟨?_,fB.ext df _ _ _ _ (nD i k aD)⟩⟩))⟩
             . simp only [jC,G',List.map_map];exact Nat.add_le_add_right (Nat.le_add_right _ _) 1
             . rw [apM,Option.map_eq_some_iff] at aD;obtain ⟨y,_,rfl⟩:=aD;exact tu _
     | pointer e=>
       rcases DataW.trod_pointer hu h with ⟨rfl,rfl⟩ | ⟨a,rk,y,zU,aF,rfl,rfl,ax,bm⟩
       . intro E h s;exact ⟨E,h,[.qV],fun _ _ q=>q,Ext.refl h,s,⟨_,_,rfl,rfl,rfl⟩,rfl,by simp only [fB,hu];exact ⟨tu _,.inl trivial⟩⟩
       . obtain rfl:n=zU:=by omega
         by_cases al:P.cellsOf e=0
         . refine DD _ fun af aj _=>?_;simp only [fB,hu];exact ⟨tu _,.inr (.inl al)⟩
         . intro E h s;obtain ⟨ao,av⟩:=DO ax;obtain ⟨kH,ae,us,cM,a2,a3,a4,a5,nD⟩:=E2 d_ gN n _ _ _ (kid_pointer gN a1 hu) bm E h s;obtain ⟨bY,ag,b,bW,df,ic,oU,pM,ts,G4⟩:=TW a3 (cap:=0) (by omega) (fun i aM=>av i (by omega)) a4;refine ⟨bY,ag,[.ptr b 0],cM.trans bW,a2.trans df,ic,⟨_,_,rfl,?_,rfl⟩,rfl,?_⟩
           . simp only [Rel];refine ⟨_,ts,?_⟩;obtain ⟨WC,ah3,st⟩:=a;simp only at pM;subst pM;rfl
           . simp only [fB,hu];exact ⟨tu _,.inr (.inr ⟨b,rfl,oU,us,G4,by omega,_,ao1 _,fB.ext df _ _ _ _ nD⟩)⟩
     | map k e=>
       have jF:cs.length=1:=by
        unfold DataW.trod at h;rw [hu] at h
        split at h<;>simp_all
       intro E h s;refine ⟨E,h,[.bad],fun _ _ q=>q,Ext.refl h,s,?_,by simp [jF],by simp only [fB,hu];exact .inr trivial⟩
       match cs,jF with
       | [c],_=>exact ⟨c,[],rfl,by simp [Rel],rfl⟩
     | interface ms=>
       have jF:cs.length=1:=by
        unfold DataW.trod at h;rw [hu] at h
        split at h<;>simp_all
       intro E h s;refine ⟨E,h,[.bad],fun _ _ q=>q,Ext.refl h,s,?_,by simp [jF],by simp only [fB,hu];exact .inr trivial⟩
       match cs,jF with
       | [c],_=>exact ⟨c,[],rfl,by simp [Rel],rfl⟩
     | _=>
       refine DD cs fun af aj _=>?_;simp only [fB,hu]
def qq (P:Program) (h:ah) (n m:Nat) (t:TypeId) (v:V):Prop:=
 match P.underlying t with
 | some (.struct _) | some (.array _ _)=>∃aj,v=.agg aj/\fB P h n m t aj
 | _=>fB P h n m t [v]
theorem qq.ext {h af:ah} (e:Ext h af) {n m:Nat} {t:TypeId} {v:V} (H:qq P h n m t v):qq P af n m t v:=by
 unfold qq at H ⊢
 split at H
 . obtain ⟨aj,ao,av⟩:=H;exact ⟨aj,ao,fB.ext e _ _ _ _ av⟩
 . obtain ⟨aj,ao,av⟩:=H;exact ⟨aj,ao,fB.ext e _ _ _ _ av⟩
 . exact fB.ext e _ _ _ _ H
theorem agG (d_:ye P=true) (gN:laidOutB P=true) {r:Reach} {a':Nat} {t:TypeId} {v:Value} {d:DataW H} {p:List MemPlace} (a1:t<P.types.size) (br:Value.okWide P W r a' t v) (a_:DataW.Trod enc P W base sp held t v d p) {E:Env} {h:ah} (s:bE ⟨W,fun _=>none⟩ E h W):
 ∃n aw af x,E.le aw/\Ext h af/\bE ⟨W,fun _=>none⟩ aw af W/\Rel aw x v/\qq P af n (jC d) t x:=by
 obtain ⟨fuel,aE⟩:=a_;obtain ⟨aw,af,aj,cM,a2,a3,a4,a5,nD⟩:=E2 d_ gN _ _ _ _ a1 aE E h s;have agg:(∃cs,v=.agg cs)->∃x,Rel aw x v/\x=.agg aj:=by rintro ⟨cs,rfl⟩;exact ⟨.agg aj,by simp only [Rel];exact ⟨cs,rfl,a4⟩,rfl⟩
 have one:v.cells=#[v]->∃x,Rel aw x v/\aj=[x]:=by
  intro ax;rw [ax] at a4 a5
  match aj,a4,a5 with
  | [x],⟨y,eo,aP,bu,cT⟩,_=>
    simp only [aqK] at aP;exact ⟨x,aP.1 ▸ bu,rfl⟩
 refine ⟨fuel,aw,af,?_⟩;unfold Value.okWide at br;cases hu:P.underlying t with
 | none=>
   rw [hu] at br;simp only [Cell.okWide,Cell.ok,hu] at br
 | some u=>
   rw [hu] at br;unfold qq;rw [hu];cases u<;>simp only at br ⊢<;>first
    | (obtain ⟨cs,b0,_⟩:=br
       obtain ⟨x,ao,av⟩:=agg ⟨cs,b0⟩;exact ⟨x,cM,a2,a3,ao,aj,av,nD⟩)
    | (have ax:v.cells=#[v]:=by
        cases v<;>first
         | rfl
         | (simp only [Cell.okWide,Cell.ok,hu] at br)
       obtain ⟨x,ao,av⟩:=one ax;exact ⟨x,cM,a2,a3,ao,av ▸ nD⟩)
def pK (P:Program) (h:ah):Nat->List TypeId->List V->Prop
 | _,[],[]=>True
 | m,t::dD,v::aj=>∃k bZ,k+bZ<=m/\(∃n,qq P h n k t v)/\pK P h bZ dD aj
 | _,_,_=>False
theorem pK.mono {h:ah}:∀{m dv:Nat} {dD:List TypeId} {aj:List V},m<=dv->pK P h m dD aj->pK P h dv dD aj
 | _,_,[],[],_,H=>by unfold pK;trivial
 | _,_,[],_::_,_,H=>H.elim
 | _,_,_::_,[],_,H=>H.elim
 | _,_,_::_,_::_,hm,⟨k,bZ,aD,H,km⟩=>⟨k,bZ,ao6 aD hm,H,km⟩
theorem Q' (d_:ye P=true) (gN:laidOutB P=true) {r:Reach} {a':Nat}:∀{dD:List TypeId} {aj:List Value} {ds:List (DataW H)} {p:List MemPlace},(∀t ∈ dD,t<P.types.size)->(∀(j:Nat) t v,dD[j]? =some t->aj[j]? =some v->Value.okWide P W r a' t v)->
 DataW.TrodAll enc P W base sp held dD aj ds p->∀{E:Env} {h:ah},bE ⟨W,fun _=>none⟩ E h W->∃aw af xs,E.le aw/\Ext h af/\bE ⟨W,fun _=>none⟩ aw af W/\bI aw xs aj/\pK P af (qv ds) dD xs
 | [],[],ds,p,_,_,_,E,h,s=>⟨E,h,[],fun _ _ q=>q,Ext.refl h,s,rfl,by unfold pK;trivial⟩
 | [],_::_,ds,p,_,_,a_,E,h,s=>by cases ds<;>exact a_.elim
 | _::_,[],ds,p,_,_,a_,E,h,s=>by cases ds<;>exact a_.elim
 | _::_,_::_,[],p,_,_,a_,E,h,s=>a_.elim
 | t::dD,v::aj,d::ds,p,az,b0,⟨ck,c0,ae,ag,_⟩,E,h,s=>by obtain ⟨n,kH,g1,x,cM,a2,a3,a4,a5⟩:=agG d_ gN (az t (by simp)) (b0 0 t v rfl rfl) ae s;obtain ⟨bY,g2,xs,bW,df,ic,oU,pM⟩:=Q' d_ gN (fun t q=>az t (by simp [q])) (fun j t v ao av=>b0 (j+1) t v (by simpa using ao) (by simpa using av)) ag a3;exact ⟨bY,g2,x::xs,cM.trans bW,a2.trans df,ic,⟨_,_,rfl,Rel.mono bW _ _ a4,oU⟩,jC d,qv ds,by simp only [qv];exact ao1 _,⟨n,a5.ext df⟩,pM⟩
theorem Y2 (d_:ye P=true) (gN:laidOutB P=true) {r:Reach} {a':Nat} {f:FuncId} {dD:List TypeId} {aj:List Value} {ds:List (DataW H)} {p:List MemPlace} (gu:∀t ∈ dD,t<P.types.size) (b0:∀(j:Nat) t v,dD[j]? =some t->aj[j]? =some v->Value.okWide P W r a' t v)
 (a_:DataW.TrodAll enc P W base sp held dD aj ds p) (qA:Lay.ok W) (cP:hn P) (ai:∃fn,P.funcs[f]? =some fn/\fn.body.isSome=true) (ax:∀(h:ah) (xs:List V),pK P h (qv ds) dD xs->dW P f xs h fun y _=>y=.bool true):
 Calls P f aj.toArray W fun e w'=>e=.returned (.bool true)/\Below W.heap.size W w':=by
 obtain ⟨E,h,xs,_,_,a3,a4,a5⟩:=Q' d_ gN gu b0 a_ (alr W qA);obtain ⟨y,af,rF,rfl⟩:=ax h xs a5;refine (rF.calls cP ai _ E W aj a4 a3).mono fun e w' q=>?_;obtain ⟨aw,x,rfl,_,av,aC⟩:=q;simp only [Rel] at av;subst av;exact ⟨rfl,aC.frame⟩
end
end
section
open Go Go.RowKit
variable [Lay]
section
variable {P:Program} {h:ah} {n m:Nat} {t:TypeId}
theorem fB.pos {aj:List V} (H:fB P h n m t aj):∃k,n=k+1:=by
 cases n with
 | zero=>exact H.elim
 | succ m=>exact ⟨m,rfl⟩
theorem fB.bool {aj:List V} (H:fB P h n m t aj) (hu:P.underlying t=some .bool):∃b,aj=[.bool b]:=by obtain ⟨m,rfl⟩:=H.pos;simpa only [fB,hu] using H
theorem fB.int {aj:List V} {k:IntKind} (H:fB P h n m t aj) (hu:P.underlying t=some (.int k)):∃i,aj=[.int k i]/\(Lit.int k i).wf=true:=by obtain ⟨m,rfl⟩:=H.pos;simpa only [fB,hu] using H
def FP (v:V):Prop:=∀b off l c,v=.slice b off l c->l<=c
end
end
section
open Go Go.RowKit Go.ChangeShapes Go.WideShapes
variable [Lay]
section
variable {H:Type} {enc:TypeId × Value->H} {P:Program}
theorem Mx (gN:laidOutB P=true) {W ri:World} (ai:Below W.heap.size W ri):∀{dD:List TypeId} {aj:List Value} {ds:List (DataW H)} {bP:List MemPlace},(dD.all fun t=>P.readableRec t&&decide (t<P.types.size))=true->
 DataW.TrodAll enc P W 0 (fun _=>true) true dD aj ds bP->DataW.TrodAll enc P ri 0 (fun b=>decide (b<W.heap.size)) true dD aj ds bP
 | [],[],[],_,_,h=>h
 | [],_::_,_,_,_,h=>by rename_i ds _;cases ds<;>exact h.elim
 | [],[],_::_,_,_,h=>h.elim
 | _::_,[],_,_,_,h=>by rename_i ds _;cases ds<;>exact h.elim
 | _::_,_::_,[],_,_,h=>h.elim
 | t::dD,v::aj,d::ds,bP,U,h=>by have a1:=h.lt;obtain ⟨p,q,ae,ag,rfl⟩:=h;simp only [aqI,ao7,apf] at U;exact ⟨p,q,Below.trod gN U.1.1 U.1.2 ae ai (fun x au=>a1 x (by simp [au])),Mx gN ai U.2 ag,rfl⟩
theorem TD {W:World} {base:Nat} {sp:Nat->Bool} {held:Bool}:∀{dD:List TypeId} {aj:List Value} {ds:List (DataW H)} {bP:List MemPlace},DataW.TrodAll enc P W base sp held dD aj ds bP->ds.length=dD.length
 | [],[],[],_,_=>rfl
 | [],_::_,ds,_,h=>by cases ds<;>exact h.elim
 | [],[],_::_,_,h=>h.elim
 | _::_,[],ds,_,h=>by cases ds<;>exact h.elim
 | _::_,_::_,[],_,h=>h.elim
 | t::dD,v::aj,d::ds,bP,h=>by obtain ⟨p,q,ae,ag,rfl⟩:=h;simp [TD ag]
theorem agv (d_:ye P=true) (gN:laidOutB P=true) {f:FuncId} {fn:Func} {s:ChangeSpec} {Le:TypeId} (gu:(fn.params.toList.all fun t=>P.readableRec t&&decide (t<P.types.size))=true) (QL:s.vars=[]) (xn:fn.resultTypes=#[Le]) (ad1:P.underlying Le=some .bool)
 (Ca:∀ds:List (DataW H),ds.length=fn.params.size->s.fn H (ds++[])={results:=[.lit (.bool true)],args:=ds})
 {B:Nat} (ax:∀(h:ah) (xs:List V),pK P h B fn.params.toList xs->dW P f xs h fun y _=>y=.bool true)
 {W:World} {base:Nat} {args:Array Value} {ds gs:List (DataW H)} {before:List MemPlace} (aD:qv (ds++gs)<=B) (nb:Lay.ok W) (cP:hn P) (ai:∃fn,P.funcs[f]? =some fn/\fn.body.isSome=true)
 (Cd:∀(j:Nat) t v,fn.params[j]? =some t->args[j]? =some v->Value.okWide P W .any base t v) (qA:DataW.Whole enc P fn.params.toList s.vars false W args.toList ds gs before):
 Calls P f args W fun e ri=>∃v,e=.returned v/\s.post enc P fn false true false false W args v ri:=by
 have ack:=qA;obtain ⟨p,q,my,Ep,rfl,sC,EH⟩:=qA;rw [QL] at Ep;obtain ⟨rfl,rfl⟩:=trodVars_none Ep;have hlen:ds.length=fn.params.size:=by rw [TD my];simp
 have hw:=Y2 d_ gN (a':=base) (r:=.any) (fun t az=>by
  have:=apA.1 gu t az;simp only [ao7,apf] at this
  exact this.2) (fun j t v ae ag=>Cd j t v (by simpa using ae) (by simpa using ag)) my nb cP ai (fun h xs q=>ax h xs (q.mono (by simpa using aD)))
 simp only [ap1] at hw;refine hw.mono fun e ri ⟨he,Mw⟩=>?_;subst he;refine ⟨_,rfl,ds,[],p++[],[],p,[],ack,?_,?_,?_,Mw.frame _,fun h=>by cases h⟩
 . rw [Ca ds hlen,xn];exact trodAll_mk1 (shut_bool ad1 _)
 . rw [Ca ds hlen];exact Mx gN Mw gu my
 . rw [Ca ds hlen,QL];rfl
end
end
section
open Go Go.RowKit
variable [Lay]
theorem ali {P:Program} {h:ah} {B:Nat} {xs:List V} (al:pK P h B [] xs):xs=[]:=by
 match xs,al with
 | [],_=>rfl
theorem Td {P:Program} {h:ah} {B:Nat} {t:TypeId} {dD:List TypeId} {xs:List V} (al:pK P h B (t::dD) xs):∃a Dz k bZ n,xs=a::Dz/\k+bZ<=B/\qq P h n k t a/\pK P h bZ dD Dz:=by
 match xs,al with
 | a::Dz,⟨k,bZ,aD,⟨n,aL⟩,ae⟩=>exact ⟨a,Dz,k,bZ,n,rfl,aD,aL,ae⟩
section
variable {P:Program} {h:ah} {n m:Nat} {t:TypeId} {v:V}
theorem alk {k:IntKind} (al:qq P h n m t v) (hu:P.underlying t=some (.int k)):∃i,v=.int k i/\(Lit.int k i).wf=true:=by unfold qq at al;rw [hu] at al;obtain ⟨s,e,q⟩:=fB.int al hu;simp only [aqK,and_true] at e;exact ⟨s,e,q⟩
theorem alj (al:qq P h n m t v) (hu:P.underlying t=some .bool):∃b,v=.bool b:=by unfold qq at al;rw [hu] at al;obtain ⟨s,e⟩:=fB.bool al hu;simp only [aqK,and_true] at e;exact ⟨s,e⟩
end
end
section
open Go Go.RowKit
set_option linter.defProp false
variable [Lay]
end
section
open Go Go.RowKit
variable [Lay]
theorem ZD {P:Program} {aR:List iy} {r:a6} {h:ah} {Q:eb->a6->ah->Prop} {a b:cc}:yR P (.bool true) a b aR r h Q=bK P (.c a::aR) .normal r h Q:=by rw [OJ];simp
theorem ZC {P:Program} {aR:List iy} {r:a6} {h:ah} {Q:eb->a6->ah->Prop} {a b:cc}:yR P (.bool false) a b aR r h Q=bK P (.c b::aR) .normal r h Q:=by rw [OJ];simp
theorem My (a b:List UInt8):se a b=decide (a=b):=by rw [yK,apR];simp
theorem G7 (k:IntKind) (b:Int) (d y:Nat):bound (some (.int k b)) d y=if 0<=b/\b<=(y:Int) then some b.toNat else none:=by simp only [bound,V.fM,sP];by_cases ae:0<=b<;>by_cases ag:b<=(y:Int)<;>simp [ae,ag]
theorem alw (s:List UInt8) (k:IntKind) (b:Int):oA (.str s) none (some (.int k b)) none=if 0<=b/\b<=(s.length:Int) then some (.str (s.take b.toNat)) else none:=by
 simp only [oA,G7];by_cases h:0<=b/\b<=(s.length:Int)
 . simp only [h,and_self,apd,bound,apT,aqM]
 . simp only [h,apa]
theorem alx (s:List UInt8) (k:IntKind) (a:Int):oA (.str s) (some (.int k a)) none none=if 0<=a/\a<=(s.length:Int) then some (.str (s.drop a.toNat)) else none:=by
 simp only [oA,MC,G7];by_cases h:0<=a/\a<=(s.length:Int)
 . simp only [h,and_self,apd];rw [List.take_of_length_le (by rw [apr];omega)]
 . simp only [h,apa]
theorem aly (s:List UInt8) (k bZ:IntKind) (a b:Int):oA (.str s) (some (.int k a)) (some (.int bZ b)) none=if 0<=a/\a<=b/\b<=(s.length:Int) then some (.str ((s.drop a.toNat).take (b.toNat-a.toNat))) else none:=by
 simp only [oA,G7];by_cases h:0<=b/\b<=(s.length:Int)
 . simp only [h,and_self,apd];by_cases ag:0<=a/\a<=b
   . have:0<=a/\a<=((b.toNat:Nat):Int):=by omega
     simp only [this,and_self,apd,ag,h]
   . have ar:¬(0<=a/\a<=((b.toNat:Nat):Int)):=by omega
     have aT:¬(0<=a/\a<=b/\b<=(s.length:Int)):=by omega
     have bC:¬(0<=a/\a<=b/\True):=fun q=>ag ⟨q.1,q.2.1⟩;rw [ao_ bC,ao_ ar]
 . have aT:¬(0<=a/\a<=b/\b<=(s.length:Int)):=by omega
   simp only [h,aT,apa]
theorem alv (s:List UInt8):oA (.str s) none none none=some (.str s):=by simp only [oA,MC,apT,aqM,List.take_length]
section
variable {P:Program}
theorem ak7 (a b:List UInt8):(fu.str .eql).run P (.str a) (.str b)=some (.bool (decide (a=b))):=by simp only [fu.run,uE,s4,My]
theorem ak6 (a b:List UInt8):(fu.str .add).run P (.str a) (.str b)=if a.length+b.length<=top then some (.str (a++b)) else none:=by
 simp only [fu.run,uE,F4];by_cases h:a.length+b.length<=top
 . rw [ape h,show Nat.ble (a.length+b.length) top=true from by rw [apn];exact h];rfl
 . rw [ao_ h,show Nat.ble (a.length+b.length) top=false from by rw [<-Bool.not_eq_true,apn];exact h];rfl
theorem ak8 (s:List UInt8) (k:IntKind) (i:Int):ub.run (.str s) (.int k i)=if 0<=i/\i < (s.length:Int) then some (.int .u8 (((s[i.toNat]?).getD 0).toNat:Int)) else none:=by
 simp only [ub,V.fM,sP];by_cases ae:0<=i
 . simp only [ae,aqn,apc,aqp];by_cases ag:i < (s.length:Int)
   . rw [ape ag,ao3 (by omega)];rfl
   . rw [ao_ ag,apv (by omega)]
 . simp only [ae,aqG,apg,aqN,apa]
theorem ak9 (a b:List UInt8):(fu.str .neq).run P (.str a) (.str b)=some (.bool (!decide (a=b))):=by simp only [fu.run,uE,s4,My]
end
end
section
open Go Go.RowKit
set_option linter.defProp false
def amS:=
 And.intro @EZ<|And.intro @aeI<|And.intro @afC<|And.intro @aeJ<|And.intro @afz<|And.intro @afD<|And.intro @afA<|And.intro @ae2<|And.intro @aeS<|And.intro @aeP<|And.intro @aeQ<|And.intro @afl<|And.intro @aeZ<|And.intro @afx<|And.intro @afr<|And.intro @agh<|And.intro @afy<|And.intro @agm<|And.intro @aeN<|And.intro @afQ<|And.intro @afd<|And.intro @af8<|And.intro @afe<|And.intro @af9<|And.intro @afv<|And.intro @agk<|And.intro @aeH<|And.intro @afN<|And.intro @afJ<|And.intro @agr<|And.intro @ae7<|And.intro @af2<|And.intro @afa<|And.intro @af5<|And.intro @afF<|And.intro @agp<|And.intro @afE<|And.intro @ago<|And.intro @ae4<|@afZ
def amT:=
 And.intro @ae5<|And.intro @af0<|And.intro @ae6<|And.intro @af1<|And.intro @ae'<|And.intro @af3<|And.intro @ae_<|And.intro @af4<|And.intro @afc<|And.intro @af7<|And.intro @afb<|And.intro @af6<|And.intro @afk<|And.intro @agc<|And.intro @ae3<|And.intro @afY<|And.intro @afp<|And.intro @agf<|And.intro @afs<|And.intro @agi<|And.intro @aeU<|And.intro @afV<|And.intro @afh<|And.intro @aga<|And.intro @afi<|And.intro @agb<|And.intro @aff<|And.intro @af'<|And.intro @afu<|And.intro @agj<|And.intro @aeL<|And.intro @afO<|And.intro @aeM<|And.intro @afP<|And.intro @afG<|And.intro @agq<|And.intro @afo<|And.intro @age<|And.intro @afK<|@ags
def amU:=
 And.intro @afn<|And.intro @agd<|And.intro @afB<|And.intro @agn<|And.intro @afw<|And.intro @agl<|And.intro @aeE<|And.intro @afM<|And.intro @aeR<|And.intro @afT<|And.intro @afg<|And.intro @af_<|And.intro @aeT<|And.intro @afU<|And.intro @aeW<|And.intro @afX<|And.intro @aeV<|And.intro @afW<|And.intro @afR<|And.intro @afS<|And.intro @Q3<|And.intro @aeO<|@aeY
def amV:=
 And.intro @alU<|And.intro @alB<|And.intro @ZD<|And.intro @ZC<|And.intro @Y3<|And.intro @akU<|And.intro @WK<|And.intro @WJ<|And.intro @aiU<|And.intro @abh<|And.intro @abg<|And.intro @WM<|And.intro @aa3<|And.intro @aa2<|And.intro @aj2<|And.intro @abb<|And.intro @aid<|And.intro @aic<|And.intro @agQ<|And.intro @agO<|And.intro @agR<|And.intro @agP<|And.intro @agS<|And.intro @Jr<|And.intro @Jq<|And.intro @Z5<|And.intro @aa5<|And.intro @aa4<|And.intro @al_<|And.intro @alf<|And.intro @alg<|And.intro @ah4<|And.intro @ah6<|And.intro @aiT<|And.intro @aiQ<|And.intro @amG<|And.intro @amF<|And.intro @Ws<|And.intro @Wt<|@Wu
def amW:=
 And.intro @Wv<|And.intro @Wr<|And.intro @UH<|And.intro @UJ<|And.intro @UI<|And.intro @al8<|And.intro @al'<|And.intro @al9<|And.intro @aex<|And.intro @aez<|And.intro @aey<|And.intro @aeD<|And.intro @afH<|And.intro @afq<|And.intro @ae1<|And.intro @aft<|And.intro @afm<|And.intro @afj<|And.intro @ae9<|And.intro @ae8<|And.intro @aeG<|And.intro @aeK<|And.intro @amz<|And.intro @amy<|And.intro @ag7<|And.intro @ag8<|And.intro @zJ<|And.intro @Rb<|And.intro @Re<|And.intro @Rf<|And.intro @alK<|And.intro @agw<|And.intro @rA<|And.intro @k6<|And.intro @eC<|And.intro @lN<|And.intro @hV<|And.intro @iT<|And.intro @ahI<|@Za
def amX:=
 And.intro @aih<|And.intro @abJ<|And.intro @Ze<|And.intro @aim<|And.intro @abN<|And.intro @Zn<|And.intro @aiw<|And.intro @abW<|And.intro @Zj<|And.intro @air<|And.intro @abS<|And.intro @Zl<|And.intro @aiu<|And.intro @abU<|And.intro @Zm<|And.intro @aiv<|And.intro @abV<|And.intro @Zc<|And.intro @aik<|And.intro @abL<|And.intro @Zo<|And.intro @aix<|And.intro @abX<|And.intro @Zk<|And.intro @ais<|And.intro @abT<|And.intro @Zi<|And.intro @aiq<|And.intro @abR<|And.intro @Zf<|And.intro @ain<|And.intro @abO<|And.intro @Zb<|And.intro @aij<|And.intro @abK<|And.intro @Zh<|And.intro @aip<|And.intro @abQ<|And.intro @Zd<|@ail
def amY:=
 And.intro @abM<|And.intro @Zg<|And.intro @aio<|And.intro @abP<|And.intro @Y_<|And.intro @abI<|And.intro @abY<|And.intro @agI<|And.intro @agJ<|And.intro @agH<|And.intro @beq_true<|And.intro @beq_false<|And.intro @Bool.not_true<|And.intro @Bool.not_false<|And.intro @aqk<|And.intro @apY<|And.intro @Bool.false_and<|And.intro @aqC<|And.intro @Bool.not_not<|And.intro @V.bool.injEq<|And.intro @apH<|And.intro @ap_<|And.intro @al5<|And.intro @al6<|And.intro @al4<|And.intro @Bool.true_eq_false<|And.intro @ao2<|And.intro @al7<|And.intro @aki<|And.intro @akj<|And.intro @Wa<|And.intro @V_<|And.intro @V8<|And.intro @V5<|And.intro @acJ<|And.intro @acL<|And.intro @acK<|And.intro @V6<|And.intro @V7<|@V9
def amZ:=
 And.intro @V'<|And.intro @Fj<|And.intro @am5<|And.intro @sW<|And.intro @am6<|And.intro @xP<|And.intro @am7<|And.intro @ahX<|And.intro @am8<|And.intro @ahY<|And.intro @am9<|And.intro @ahZ<|And.intro @am'<|And.intro @ah0<|And.intro @am_<|And.intro @ah1<|And.intro @ana<|And.intro @abF<|And.intro @abC<|And.intro @abE<|And.intro @abD<|And.intro @abG<|And.intro @Bool.or_false<|And.intro @Bool.false_or<|And.intro @Bool.or_true<|And.intro @Bool.true_or<|And.intro @ahP<|And.intro @ahs<|And.intro @JR<|And.intro @aiR<|And.intro @aiS<|And.intro @VA<|And.intro @VG<|And.intro @VH<|And.intro @VI<|And.intro @VJ<|And.intro @VK<|And.intro @VL<|And.intro @VM<|@VN
def am0:=
 And.intro @Vz<|And.intro @VB<|And.intro @VC<|And.intro @VD<|And.intro @VE<|And.intro @VF<|And.intro @alw<|And.intro @alx<|And.intro @aly<|And.intro @alv<|And.intro @ak7<|And.intro @ak9<|And.intro @ak6<|@ak8
end
section
open Go Go.RowKit
variable [Lay]
theorem A3 {B:Nat} {h:ah} {size:Nat} {s:V} {n:Nat} {us cs:List V} (dS:1<=size) (H1:dK B h size s n us) (cj:B<=h.next) (hlen:(n+1) * size<=top) (jF:cs.length=size) (bJ:hE cs=true):
 ∃v af,l0 size s (.slice (an h.next) 0 1 1) (h.new (.bc cs 0 false))=.val v af/\dK B af size v (n+1) (us++cs)/\Mod s.bn h af/\h.next+1<=af.next/\∀b,v.bn b->s.bn b\/h.next<dP b:=by
 have au:Ext h (h.new (.bc cs 0 false)):=(Ext.refl h).new _;have b0:hy (h.new (.bc cs 0 false)) size (.slice (an h.next) 0 1 1) 1 cs:=by refine ⟨by rw [jF];omega,rfl,jJ (by rw [hV];omega),cs,.inr ⟨0,false,by rw [rA]⟩,by omega,by simp⟩
 obtain ⟨v,af,ao,av,aC,bs⟩:=GZ dS (H1.ext au) b0 (by rw [hV];omega) hlen bJ;refine ⟨v,af,ao,av,(au.mod _).trans aC,by have:=aC.next;rw [hV] at this;exact this,fun b ai=>?_⟩;rcases bs b ai with q | q
 . exact .inl q
 . exact .inr (by rw [hV] at q;omega)
theorem TL:∀l:List UInt8,qd (ho l)=some l
 | []=>rfl
 | c::l=>by have b6:=TL l;simp only [ho,qd,b6];simp
theorem DK:∀l:List UInt8,(ho l).length=l.length
 | []=>rfl
 | c::l=>by simp only [ho,ao9,DK l]
theorem DJ:∀l m:List UInt8,ho (l++m)=ho l++ho m
 | [],m=>rfl
 | c::l,m=>by simp only [ho,apm,DJ l m]
theorem Tn {h:ah} {b:aO} {us:List V} {dA:Nat} {st:Bool} {off:Nat} {l:List UInt8} (ay:h.get b=.bc us dA st) (aH:off+l.length<=us.length) (hu:(us.drop off).take l.length=ho l):vX b off l.length h=.val (.str l) h:=by unfold vX;rw [ay];simp only [c'.q7,c'.bc];rw [show Nat.ble (off+l.length) us.length=true from by rw [apn];exact aH];simp only [apc];rw [Eg us l.length off aH,hu,TL]
theorem sn {B:Nat} {h:ah} {v:V} {n:Nat} {l:List UInt8} (H:dK B h 1 v n (ho l)):u7.run v h=.val (.str l) h:=by
 have ae:=H.1;rw [DK,aqO] at ae;have ag:=H.2;cases v<;>simp only at ag<;>try (exact ag.elim)
 case cS=>
  subst ag;rw [aql] at ae;subst ae;rfl
 case slice=>
  obtain ⟨ao,av,aC,bs,ca,us,dA,st,cD,dy,dH⟩:=ag;rw [DK] at dH;simp only [u7];rw [ao,<-ae];exact Tn cD (by omega) dH
 case gM=>
  obtain ⟨ao,av,aC,bs,ca,us,st,cD,dy,dH⟩:=ag;rw [DK] at dH dy;simp only [u7];rw [ao,bs,<-ae];exact Tn cD (by omega) (by simpa using dH)
def sc (size:Nat) (s:V) (m:Nat) (aj:List V) (h:ah):bk:=match s with
 | .cS=>wB size m aj h
 | .slice b off len cap=>wA size b off len cap m aj h
 | .gM b off len idx=>wz size b off len idx m aj h
 | _=>.fail
theorem Mod.self {b:aO} {h af:ah} (e:Mod (fun q=>q=b) h af) (k:c'):Mod (fun q=>q=b) h (af.set b k):=e.set (fun _=>rfl) k
theorem Mod.fresh {M:aO->Prop} {h af:ah} (e:Mod M h af) {i:Nat} (aM:h.next<=i) (k:c'):Mod M h (af.set (an i) k):=
 e.set (fun q=>absurd (show dP (an i)<h.next from q) (by rw [dk];omega)) k
theorem Mod.Tz {M N:aO->Prop} {h ag ar:ah} (e:Mod M h ag) (q:Mod N ag ar) (aF:∀b,N b->h.next<=dP b):Mod M h ar:=
 ⟨ao6 e.next q.next,fun b bJ ai=>by rw [q.get b (e.cr bJ) (fun k=>absurd (show dP b<h.next from bJ) (by have:=aF b k;omega)),e.get b bJ ai]⟩
inductive D where
 | i (k:IntKind) (n:Int)
 | b (x:Bool)
 | s (x:List UInt8)
 | l (size:Nat) (es:List (List D))
inductive eJ (F:aO->Prop) (h:ah):List D->List V->Prop
 | nil:eJ F h [] []
 | i {k:IntKind} {n:Int} {ds:List D} {aj:List V} (t:eJ F h ds aj):eJ F h (.i k n::ds) (.int k n::aj)
 | b {x:Bool} {ds:List D} {aj:List V} (t:eJ F h ds aj):eJ F h (.b x::ds) (.bool x::aj)
 | s {x:List UInt8} {ds:List D} {aj:List V} (ai:x.length<=top) (t:eJ F h ds aj):eJ F h (.s x::ds) (.str x::aj)
 | l {size:Nat} {es:List (List D)} {v:V} {us:List (List V)} {ds:List D} {aj:List V} (U:FP v) (ai:es.length<=top) (al:hy h size v es.length us.flatten) (hu:us.length=es.length) (bN:∀u ∈ us,u.length=size)
    (kids:∀(i:Nat) (e:List D) (u:List V),es[i]? =some e->us[i]? =some u->eJ F h e u) (aE:∀b,v.bn b->F b) (t:eJ F h ds aj):eJ F h (.l size es::ds) (v::aj)
structure fw (F:aO->Prop) (h:ah) (size:Nat) (es:List (List D)) (v:V):Prop where
 room:FP v
 le:es.length<=top
 ex:∃us:List (List V),hy h size v es.length us.flatten/\us.length=es.length/\(∀u ∈ us,u.length=size)/\∀(i:Nat) (e:List D) (u:List V),es[i]? =some e->us[i]? =some u->eJ F h e u
 BC:∀b,v.bn b->F b
section
variable {F:aO->Prop} {h af:ah} {ds:List D} {aj:List V}
theorem eJ.mod {eZ M:aO->Prop} (m:Mod M h af) (fE:∀b,F b->Old h b->¬M b/\eZ b) (H:eJ F h ds aj):eJ eZ af ds aj:=by
 induction H with
 | nil=>exact .nil
 | i t b6=>exact .i b6
 | b t b6=>exact .b b6
 | s ai t b6=>exact .s ai b6
 | l U ai al hu bN kids aE t vv t_=>exact .l U ai (al.mod m fun b q=>(fE b (aE b q) (al.cr q)).1) hu bN vv (fun b q=>(fE b (aE b q) (al.cr q)).2) t_
theorem eJ.ext (H:eJ F h ds aj) (e:Ext h af):eJ F af ds aj:=by
 induction H with
 | nil=>exact .nil
 | i t b6=>exact .i b6
 | b t b6=>exact .b b6
 | s ai t b6=>exact .s ai b6
 | l U ai al hu bN kids aE t vv t_=>exact .l U ai (al.ext e) hu bN vv aE t_
theorem eJ.eW {eZ:aO->Prop} (H:eJ F h ds aj) (w:∀b,F b->eZ b):eJ eZ h ds aj:=by
 induction H with
 | nil=>exact .nil
 | i t b6=>exact .i b6
 | b t b6=>exact .b b6
 | s ai t b6=>exact .s ai b6
 | l U ai al hu bN kids aE t vv t_=>exact .l U ai al hu bN vv (fun b q=>w b (aE b q)) t_
theorem eJ.cr (H:eJ F h ds aj):eJ (fun b=>F b/\Old h b) h ds aj:=by
 induction H with
 | nil=>exact .nil
 | i t b6=>exact .i b6
 | b t b6=>exact .b b6
 | s ai t b6=>exact .s ai b6
 | l U ai al hu bN kids aE t vv t_=>exact .l U ai al hu bN vv (fun b q=>⟨aE b q,al.cr q⟩) t_
theorem eJ.hE (H:eJ F h ds aj):hE aj=true:=by
 induction H with
 | nil=>rfl
 | i t b6=>simpa [Go.Proofs.YtahfljfikfkpnaaGreatDoor.bg.hE,V.one] using b6
 | b t b6=>simpa [Go.Proofs.YtahfljfikfkpnaaGreatDoor.bg.hE,V.one] using b6
 | s ai t b6=>simpa [Go.Proofs.YtahfljfikfkpnaaGreatDoor.bg.hE,V.one] using b6
 | l U ai al hu bN kids aE t vv t_=>simp only [Go.Proofs.YtahfljfikfkpnaaGreatDoor.bg.hE,al.one.1,t_,Bool.and_self]
theorem eJ.int {k:IntKind} {n:Int} (H:eJ F h (.i k n::ds) aj):∃us,aj=.int k n::us/\eJ F h ds us:=by
 cases H with
 | i t=>exact ⟨_,rfl,t⟩
theorem eJ.str {x:List UInt8} (H:eJ F h (.s x::ds) aj):∃us,aj=.str x::us/\x.length<=top/\eJ F h ds us:=by
 cases H with
 | s ai t=>exact ⟨_,rfl,ai,t⟩
theorem eJ.c7 {size:Nat} {es:List (List D)} (H:eJ F h (.l size es::ds) aj):∃v us,aj=v::us/\fw F h size es v/\eJ F h ds us:=by
 cases H with
 | l U ai al hu bN kids aE t=>exact ⟨_,_,rfl,⟨U,ai,⟨_,al,hu,bN,kids⟩,aE⟩,t⟩
theorem eJ.no (H:eJ F h [] aj):aj=[]:=by cases H;rfl
end
theorem HT {size:Nat}:∀(us:List (List V)) (i:Nat) (u:List V),(∀u ∈ us,u.length=size)->us[i]? =some u->(us.flatten.drop (i * size)).take size=u
 | [],i,u,_,h=>by simp at h
 | w::us,0,u,aH,h=>by simp only [apj,ao4] at h;subst h;rw [Nat.zero_mul,apT,aqb,List.take_left' (aH _ (by simp))]
 | w::us,i+1,u,aH,h=>by rw [show (i+1) * size=size+i * size from by rw [Nat.succ_mul,Nat.add_comm],<-List.drop_drop,aqb,List.drop_left' (aH _ (by simp))];exact HT us i u (fun u hu=>aH u (by simp [hu])) (by simpa using h)
theorem HU {size:Nat}:∀(us:List (List V)),(∀u ∈ us,u.length=size)->us.flatten.length=us.length * size
 | [],_=>by simp
 | w::us,aH=>by rw [aqb,apb,aH w (by simp),HU us (fun u hu=>aH u (by simp [hu])),ao9,Nat.succ_mul,Nat.add_comm]
section
variable {F:aO->Prop} {h af:ah} {size:Nat} {es:List (List D)} {v:V}
theorem fw.cons {ds:List D} {aj:List V} (H:fw F h size es v) (t:eJ F h ds aj):eJ F h (.l size es::ds) (v::aj):=by obtain ⟨us,a,b,c,d⟩:=H.ex;exact .l H.room H.le a b c d H.BC t
theorem fw.ext (H:fw F h size es v) (e:Ext h af):fw F af size es v:=by obtain ⟨us,a,b,c,d⟩:=H.ex;exact ⟨H.room,H.le,⟨us,a.ext e,b,c,fun i x u ao av=>(d i x u ao av).ext e⟩,H.BC⟩
theorem fw.mod {eZ M:aO->Prop} (m:Mod M h af) (fE:∀b,F b->Old h b->¬M b/\eZ b) (H:fw F h size es v):fw eZ af size es v:=by obtain ⟨us,a,b,c,d⟩:=H.ex;exact ⟨H.room,H.le,⟨us,a.mod m fun x q=>(fE x (H.BC x q) (a.cr q)).1,b,c,fun i x u ao av=>(d i x u ao av).mod m fE⟩,fun x q=>(fE x (H.BC x q) (a.cr q)).2⟩
theorem fw.eW {eZ:aO->Prop} (H:fw F h size es v) (w:∀b,F b->eZ b):fw eZ h size es v:=by obtain ⟨us,a,b,c,d⟩:=H.ex;exact ⟨H.room,H.le,⟨us,a,b,c,fun i x u ao av=>(d i x u ao av).eW w⟩,fun b q=>w b (H.BC b q)⟩
theorem fw.len (H:fw F h size es v):l9 v=some (.int .i64 es.length):=by obtain ⟨us,a,_⟩:=H.ex;exact a.len
theorem fw.one (H:fw F h size es v):v.one=true/\v.cells=[v]/\v.hZ=true:=by obtain ⟨us,a,_⟩:=H.ex;exact a.one
theorem fw.nil (F:aO->Prop) (h:ah) (size:Nat):fw F h size [] .cS:=⟨fun b o l c e=>(by cases e),api _,⟨[],⟨by simp,rfl⟩,rfl,fun u hu=>(by cases hu),fun i e u q=>(by simp at q)⟩,fun b q=>q.elim⟩
theorem fw.at (H:fw F h size es v) {k:IntKind} {i:Nat} (aM:i<es.length):
 ∃b off u,mG size v (.int k i)=some (.ptr b (off+i * size))/\eJ F h es[i] u/\u.length=size/\(∀af,Ext h af->rT size (af.get b) (off+i * size)=some (.agg u))/\∀af,Ext h af->∀j,j<size->hc (af.get b) (off+i * size+j)=u[j]? :=by
 obtain ⟨us,ae,ag,aH,ar⟩:=H.ex;have Qi:i<us.length:=by omega
 have hu:=ao3 Qi;obtain ⟨b,off,aP,bu⟩:=ae.mF (k:=k) aM;have aE:=HT us i _ aH hu;have tJ:=HU us aH;have hle:i * size+size<=us.length * size:=by have:=apP size (show i+1<=us.length by omega);rw [Nat.succ_mul] at this;exact this
 have EP:us[i].length=size:=aH _ (ap8 Qi);refine ⟨b,off,us[i],aP,ar i _ _ (ao3 aM) hu,EP,fun af e=>?_,fun af e j cY=>?_⟩
 . rw [(bu.ext e).lb (i:=i * size) (n:=size) (by omega),aE]
 . rw [apU,(bu.ext e).la (i:=i * size+j) (by omega)];have:((us.flatten.drop (i * size)).take size)[j]? =us[i][j]? :=by rw [aE]
   rw [apS cY,ap5] at this;rw [<-this,ao3 (by omega)]
end
def Any (_:aO):Prop:=True
end
section
open Go Go.RowKit
set_option linter.defProp false
variable [Lay]
def aa:=And.intro @amS<|And.intro @amT @amU
def amI:=And.intro @amV<|And.intro @amW<|And.intro @amX<|And.intro @amY<|And.intro @amZ @am0
def amJ:=And.intro @Option.isSome_some.{0}<|And.intro @aqr.{0}<|And.intro @apd.{1}<|And.intro @apa.{1}<|And.intro @aqp<|And.intro @and_true<|And.intro @apj.{0}<|And.intro @apO.{0}<|And.intro @ao9.{0}<|And.intro @aph.{0}<|
 And.intro @apT.{0}<|And.intro @aqE.{0}<|And.intro @aqm.{0}<|And.intro @List.take_zero.{0}<|And.intro @apm.{0}<|And.intro @apx.{0}<|And.intro @ao4.{0}<|And.intro @exists_eq_left'.{1}<|And.intro @aqK.{0}<|
 And.intro @Nat.succ_ne_zero<|And.intro @aep<|And.intro @aeo<|And.intro @List.getElem?_nil.{0}<|And.intro @aqn<|And.intro @aqG<|And.intro @eq_self.{1}<|And.intro @not_true_eq_false<|And.intro @not_false_eq_true<|And.intro @ite_true.{1} @ite_false.{1}
def cQ:=And.intro amI (And.intro amJ (And.intro @kV.eq_1 (And.intro @kV.eq_2 (And.intro @aZ.gE.eq_1 (And.intro @aZ.gE.eq_2 (And.intro @q8.eq_1 (And.intro @q8.eq_2 (And.intro @q8.eq_3 (And.intro @over.eq_1 (And.intro @over.eq_2 (And.intro @over.eq_3 (And.intro @hE.eq_1 (@hE.eq_2)))))))))))))
def ad:=And.intro cQ (And.intro @eb.ends.eq_1 (And.intro @eb.ends.eq_2 (And.intro @hz.eq_1 (And.intro @hz.eq_2 (And.intro @hz.eq_3 (And.intro @hz.eq_4 (And.intro @oneOf.eq_1 (And.intro @oneOf.eq_2 top.eq_1))))))))
end
section
open Go Go.RowKit
variable [Lay]
structure Has (h:ah) (n:Nat) (l:List V):Prop where
 lt:n<h.next
 g:h.get (an n)=.bc l 0 false
theorem Has.ext {h af:ah} {n:Nat} {l:List V} (B:Has h n l) (e:Ext h af):Has af n l:=⟨aqg B.lt e.next,(e.get _ (jJ B.lt)).trans B.g⟩
theorem fU (h:ah) (l:List V):∃H,h.new (.bc l 0 false)=H/\Ext h H/\Has H h.next l:=⟨_,rfl,(Ext.refl h).new _,by rw [hV];omega,rA _⟩
theorem fq (h:ah) (z l:List V):∃H,(h.new (.bc z 0 false)).set (an h.next) (.bc l 0 false)=H/\Ext h H/\Has H h.next l:=
 ⟨_,rfl,((Ext.refl h).new _).set (ao1 _) _,by rw [iT,hV];omega,by rw [eC,ape rfl]⟩
theorem Has.set {h:ah} {n m:Nat} {l:List V} (B:Has h n l) (hm:n≠m) (k:c'):Has (h.set (an m) k) n l:=⟨by rw [iT];exact B.lt,by rw [eC,ao_ (by rw [lN];exact fun q=>hm q.symm)];exact B.g⟩
theorem Has.put {h:ah} {n:Nat} {l:List V} (B:Has h n l) (eD:List V):Has (h.set (an n) (.bc eD 0 false)) n eD:=⟨by rw [iT];exact B.lt,by rw [eC,ape rfl]⟩
theorem Cx (h:ah) (size n:Nat) (aj:List V) (aH:aj.length=n * size) (aF:n<=top):∃H,h.new (.bc aj 0 false)=H/\Ext h H/\hy H size (.slice (an h.next) 0 n n) n aj/\FP (.slice (an h.next) 0 n n)/\∀b,(V.slice (an h.next) 0 n n).bn b->b=an h.next:=
 ⟨_,rfl,(Ext.refl h).new _,dK.v (B:=h.next) ⟨aH,rfl,by rw [dk];exact ao1 _,jJ (by rw [hV];omega),ao1 _,aF,aj,0,false,rA _,by omega,by rw [apT,List.take_length]⟩,
   fun b o l c e=>by cases e;exact ao1 _,fun b q=>q⟩
theorem fw.set {F:aO->Prop} {h:ah} {size:Nat} {es:List (List D)} {v:V} (H:fw F h size es v) {b:aO} (ai:¬F b) (k:c'):fw F (h.set b k) size es v:=
 H.mod ((Mod.refl (fun x=>x=b) h).set (fun _=>rfl) k) fun x q _=>⟨fun e=>ai (e ▸ q),q⟩
theorem dh {h:ah} {n:Nat} (aF:h.next<=n):¬Old h (an n):=fun q=>by unfold Old at q;rw [dk] at q;omega
theorem uO {i n:Nat} (h:i<n) (aF:n<=4611686018427387904):IntKind.i64.wrap ((i:Int)+1)=((i+1:Nat):Int):=by rw [wrap_i64 (by omega) (by omega)];rfl
section
variable {aB:Fr} {E bY:Env} {h ax:ah} {w aQ:World}
end
def gQ:List UInt8->List UInt8->Bool
 | [],[]=>true
 | a::Wn,b::cb=>Nat.beq a.toNat b.toNat&&gQ Wn cb
 | _,_=>false
section
variable {h ax:ah}
end
inductive Dm (F:aO->Prop) (h:ah):List (Int × List D)->List fv->Prop
 | nil:Dm F h [] []
 | cons {n:Int} {ds:List D} {y:V} {born:Nat} {ik:List (Int × List D)} {es:List fv} (a_:eJ F h ds y.cells) (t:Dm F h ik es):Dm F h ((n,ds)::ik) (⟨.int .i64 n,y,born⟩::es)
structure ans (F:aO->Prop) (h:ah) (ik:List (Int × List D)) (v:V):Prop where
 ex:∃b es,v=.map b/\Old h b/\((∃clock,h.get b=.mp es clock)\/h.get b=.l_ es/\(ik.map Prod.fst).Nodup)/\Dm F h ik es/\F b
section
variable {F:aO->Prop} {h af:ah} {ik:List (Int × List D)} {es:List fv} {v:V}
theorem S5 (k n:Int):o1.run (.int .i64 k) (.int .i64 n)=some (decide (k=n)):=by simp only [o1,V.fM,rp,apc,Bt]
end
section
variable {h ax:ah}
end
section
variable {C:Ctx} (fE:C.P.follows .mixedOrders=true) (cP:hn C.P) (w0:Vh C) {n:Nat} {f:FuncId} (aE:Nat.beq f eA=false) (au:C.ext f=none) (l4:∃fn,C.P.funcs[f]? =some fn/\fn.body.isSome=true)
include fE cP w0 aE au l4
end
end
end Go.Proofs.YtahfljfikfkpnaaGreatDoor.bg
