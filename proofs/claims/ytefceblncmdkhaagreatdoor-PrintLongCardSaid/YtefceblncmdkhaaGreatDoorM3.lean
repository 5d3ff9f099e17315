/- The abstract machine and its walks (a verified interpreter of the model's code: plain definitions and lemmas, no condition). Printed by a program from longer texts: names made short. -/
import Derived.Test.YtefceblncmdkhaaGreatDoorM2
import Derived.Scope
import Derived.RangeFuncRecord
import Derived.Carry
import Derived.OpenShut
import Derived.ChangeSame
import Derived.Lib.Bytealg
import Derived.Lib.IndexMore
import Derived.Handed
import Derived.HandedShaped
import Derived.Shelf.SlIter.Sorted
import Derived.Shelf.SlIter.Nil
import Derived.StringKeys
import Derived.WideShapes
import Derived.Lib.ItoaNum
import Derived.Lib.Join
set_option linter.unusedSectionVars false
set_option linter.unusedSimpArgs false
set_option linter.unusedVariables false
set_option maxHeartbeats 64000000
noncomputable section
namespace Go.Proofs.YtefceblncmdkhaaGreatDoor.bd
section
open Go Go.RowKit
variable [Lay]
theorem Dy {α:Type} (p q:α->Bool):∀(l:List α),(∀x ∈ l,q x=true->p x=true)->(∃x ∈ l,p x=true/\q x=false)->l.countP q<l.countP p
 | [],_,h=>by obtain ⟨x,ar,_⟩:=h;simp at ar
 | a::l,J,ad=>by
   have hle:l.countP q<=l.countP p:=List.countP_mono_left fun x ar=>J x (by simp [ar]);obtain ⟨x,ar,ak,aq⟩:=ad;simp only [ans] at ar;rcases ar with rfl | ar
   . rw [List.countP_cons,List.countP_cons,ak,aq];simp;omega
   . have bA:=Dy p q l (fun y bc=>J y (by simp [bc])) ⟨x,ar,ak,aq⟩;have bF:=J a (by simp);rw [List.countP_cons,List.countP_cons];cases acC:q a with
     | true=>rw [bF acC];simp;omega
     | false=>simp;omega
theorem xQ (e:Edge):Region.binds .any e=vq e:=by unfold Region.binds vq;cases e.ground<;>rfl
section
variable {P:Program}
theorem uJ {order:List Nat}:∀{bD:List Nat} {k j p:Nat},Ci order k bD=true->bD[j]? =some p->order[p]? =some (k+j)
 | [],_,j,p,_,h=>by simp at h
 | q::bD,k,j,p,ak,h=>by
   simp only [Ci,amX] at ak;cases j with
   | zero=>
     simp only [anj,amW] at h;subst h;have J:=ak.1;cases aq:order[q]? with
     | none=>rw [aq] at J;cases J
     | some i=>rw [aq] at J;rw [anA] at J;rw [J];rfl
   | succ j=>
     have:=uJ ak.2 (show bD[j]? =some p by simpa using h);rw [this];congr 1;omega
theorem ou {ops:Array Oper}:∀{order:List Nat} {p i:Nat} {o:Oper},order[p]? =some i->ops[i]? =some o->(hZ ops order)[p]? =some o
 | [],p,i,o,h,_=>by simp at h
 | x::xs,p,i,o,h,a8=>by
   cases p with
   | zero=>
     simp only [anj,amW] at h;subst h;simp [hZ,a8]
   | succ p=>simpa [hZ] using ou (show xs[p]? =some i by simpa using h) a8
theorem qD {ops:Array Oper}:∀{order:List Nat},(hZ ops order).length=order.length
 | []=>rfl
 | x::xs=>by simp [hZ,qD (order:=xs)]
structure Cert (P:Program) (az:Nat) (ops:Array Oper) (calls:Nat->et) (es:List fr) (bb:bN) (a1:ah) (dk:bN) (aA:ah) (e8:List Nat) (order aF:List Nat) (N M:Nat) (lit:Bool):Prop where
 len:es.length=N
 B3:N<=ops.size
 Sx:N<=M
 iQ:∀k,k<ops.size->posOf aF k<ops.size/\order[posOf aF k]? =some k
 mc:∀p,p<ops.size->∃i,i<ops.size/\posOf aF i=p
 a1:cr es aA 0=a1
 bb:e2 es dk 0=bb
 step:∀i o,ops[i]? =some o->posOf aF i<N->∃e,es[posOf aF i]? =some e/\(cU P az ops o).run (calls i) e.r e.h=.val e.v (cr es aA (posOf aF i+1))/\e2 es dk (posOf aF i+1)=(gh o.dst).run e.r e.v
 nX:∀i o,ops[i]? =some o->∃c7,(fi [] ops.toList)[i]? =some c7/\nE i o=true/\(posOf aF i<M->
  ∀k ok,ops[k]? =some ok->posOf aF k<M->∃mk,(fi [] ops.toList)[k]? =some mk/\pI i c7 (b2 ops o) o.dst k mk ok (Nat.blt (posOf aF k) (posOf aF i))=true/\(ft P o.op=true->eR P ok=true->posOf aF k<posOf aF i->gx c7 k=true\/(lit=true/\l6 o=true/\l6 ok=true)))
 ends:N ∈ e8
 mem:∀j o,ops[j]? =some o->eR P o=true->posOf aF j ∈ e8
 Un:∀s ∈ e8,(s=ops.size\/(s=N/\M=N))\/∃k o,ops[k]? =some o/\eR P o=true/\s=posOf aF k
 ask:∀j o,ops[j]? =some o->looks o.op=true->ft P o.op=false->posOf aF j<N->∃e,es[posOf aF j]? =some e/\∀s ∈ e8,
  sW P (fi [] ops.toList) ops.toList aF j (((fi [] ops.toList)[j]?).getD 0) s=true->∃c aa,(ht P c/\hG P c)/\(cU P az ops o).run c e.r (cr es aA s)=.val e.v aa
 tail:M<ops.size->M=N/\∀k ok mk,ops[k]? =some ok->N<=posOf aF k->(fi [] ops.toList)[k]? =some mk->∀j,j<ops.size->posOf aF j<N->gx mk j=true
 stop:N<ops.size->ops.size<=M->∃i0 iz m0,ops[i0]? =some iz/\posOf aF i0=N/\mL iz.op=true/\(fi [] ops.toList)[i0]? =some m0/\
  (∀k ok mk,ops[k]? =some ok->N<posOf aF k->(fi [] ops.toList)[k]? =some mk->gx mk i0=true)/\
  (∀k ok,ops[k]? =some ok->hl ok=true->posOf aF k<N->gx m0 k=true)/\∃v aa,(cU P az ops iz).run (calls i0) dk aA=.cY v aa
theorem Sn {o:Oper} (h:mL o.op=true):ft P o.op=true/\hl o=false:=by
 obtain ⟨dst,op,type,pos,after,guard⟩:=o;cases op<;>simp only [mL] at h<;>try (cases h;done)
 . rename_i c;obtain ⟨callee,args,types⟩:=c;cases callee<;>simp only at h<;>try (cases h;done)
   exact ⟨rfl,rfl⟩
 . exact ⟨rfl,rfl⟩
variable {az:Nat} {ops:Array Oper} {call:et} {calls:Nat->et} {es:List fr} {bb:bN} {a1:ah} {dk:bN} {aA:ah} {e8:List Nat} {order aF:List Nat} {N M:Nat} {lit:Bool}
theorem Cert.w2 (C:Cert P az ops calls es bb a1 dk aA e8 order aF N M lit) {k bx:Nat} (J:k<ops.size) (ad:bx<ops.size) (he:posOf aF k=posOf aF bx):k=bx:=by have a:=(C.iQ k J).2;have b:=(C.iQ bx ad).2;rw [he,b] at a;cases a;rfl
theorem O4 {ops:Array Oper} {aF:List Nat} (aA:xW P ops aF=true):∀i o,ops[i]? =some o->∃c7,(fi [] ops.toList)[i]? =some c7/\nE i o=true/\
 ∀k ok,ops[k]? =some ok->∃mk,(fi [] ops.toList)[k]? =some mk/\pI i c7 (b2 ops o) o.dst k mk ok (Nat.blt (posOf aF k) (posOf aF i))=true/\(ft P o.op=true->eR P ok=true->posOf aF k<posOf aF i->gx c7 k=true):=by
 intro i o au;unfold xW at aA;obtain ⟨c7,J,ad⟩:=qU aA i o (by simpa using au);simp only [anB,amX] at ad;refine ⟨c7,J,ad.1,fun k ok ay=>?_⟩;obtain ⟨mk,bY,b_⟩:=qU ad.2 k ok (by simpa using ay);simp only [anB,amX] at b_;refine ⟨mk,bY,b_.1,fun an aN aL=>?_⟩;have ej:=b_.2;rw [an,aN,an2,show Nat.blt (posOf aF k) (posOf aF i)=true from by rw [anF];exact aL] at ej;exact ej
theorem Cert.Kz (C:Cert P az ops calls es bb a1 dk aA e8 order aF N M lit):∀p,p<=N->∀t,t<=top->
 (∃k o e,posOf aF k<p/\ops[k]? =some o/\o.dst=some t/\es[posOf aF k]? =some e/\T.get .bad (aC t) (e2 es dk p)=e.v)\/
 ((∀k o,posOf aF k<p->ops[k]? =some o->o.dst≠some t)/\T.get .bad (aC t) (e2 es dk p)=T.get .bad (aC t) bb)
 | 0,_,t,aE=>.inr ⟨fun k o h=>by omega,by rw [C.bb]⟩
 | p+1,au,t,aE=>by
   obtain ⟨i,aL,ku⟩:=C.mc p (by have:=C.B3;omega);have cP:ops[i]? =some ops[i]:=ani aL;obtain ⟨e,J,ad,aD⟩:=C.step i ops[i] cP (by omega);rw [ku] at J ad aD;have I7:e2 es dk p=e.r:=by simp [e2,J]
   have eL:=PQ (r:=e.r) (v:=e.v) (k9 ad).1 aE;rw [aD,eL];by_cases aZ:ops[i].dst=some t
   . rw [anb aZ];exact .inl ⟨i,_,e,by omega,cP,aZ,by rw [ku];exact J,rfl⟩
   . rw [am7 aZ,<-I7];rcases Cert.Kz C p (by omega) t aE with ⟨k,o,dI,ag,av,aI,bU,c8⟩ | ⟨ag,av⟩
     . exact .inl ⟨k,o,dI,by omega,av,aI,bU,c8⟩
     . refine .inr ⟨fun k o ay a8=>?_,av⟩;by_cases hj:k=i
       . subst hj;rw [cP] at a8;cases a8;exact aZ
       . refine ag k o ?_ a8;have qi:=(am1.1 a8).1;have:posOf aF k≠p:=fun e=>hj (C.w2 qi aL (by rw [e,ku]));omega
theorem Cert.Hy (C:Cert P az ops calls es bb a1 dk aA e8 order aF N M lit):∀p,p<=N->T.get .bad fs (e2 es dk p)=T.get .bad fs bb
 | 0,_=>by rw [C.bb]
 | p+1,au=>by
   obtain ⟨i,aL,ku⟩:=C.mc p (by have:=C.B3;omega);have cP:ops[i]? =some ops[i]:=ani aL;obtain ⟨e,J,ad,aD⟩:=C.step i ops[i] cP (by omega);rw [ku] at J ad aD;have I7:e2 es dk p=e.r:=by simp [e2,J]
   have aZ:=(k9 ad).1;rw [aD,<-Cert.Hy C p (by omega),I7];cases abG:ops[i].dst with
   | none=>rfl
   | some d=>
     rw [abG] at aZ;simp only [fG,amX,ann] at aZ;simp only [gh];rw [T.iH,am7 (w0 aZ.2)]
def nameAt (es:List fr) (aA:ah) (aF:List Nat) (k:Nat):aU:=aC (cr es aA (posOf aF k)).next
def Ar (es:List fr) (aA:ah) (aF:List Nat) (k:Nat):cm:=(cr es aA (posOf aF k+1)).get (nameAt es aA aF k)
def Made (es:List fr) (aA:ah) (aF:List Nat) (k:Nat):Prop:=(cr es aA (posOf aF k+1)).next≠(cr es aA (posOf aF k)).next
def kJ (ops:Array Oper) (es:List fr) (aA:ah) (aF:List Nat) (listed:Array Bool) (s k:Nat):Prop:=
 ∃o,ops[k]? =some o/\(hl o=true/\Made es aA aF k)/\¬listed.getD k false=true/\posOf aF k<s
structure Holds (aB F:Fr) (es:List fr) (aA:ah) (aF:List Nat) (D:Nat->Prop):Prop where
 w:F.w=aB.w
 cH:∀b,(∀k,D k->nameAt es aA aF k≠b)->F.h0 b=aB.h0 b
 new:∀k,D k->F.h0 (nameAt es aA aF k)=some (Ar es aA aF k)/\aB.h0 (nameAt es aA aF k)=none
 inj:∀k bx,D k->D bx->nameAt es aA aF k=nameAt es aA aF bx->k=bx
theorem Holds.congr {aB F:Fr} {D Li:Nat->Prop} (H:Holds aB F es aA aF D) (h:∀k,Li k↔D k):Holds aB F es aA aF Li:=
 ⟨H.w,fun b aj=>H.cH b fun k ay=>aj k ((h k).2 ay),fun k ay=>H.new k ((h k).1 ay),fun k bx ay ir=>H.inj k bx ((h k).1 ay) ((h bx).1 ir)⟩
theorem Holds.none {aB F:Fr} {D:Nat->Prop} (H:Holds aB F es aA aF D) (h:∀k,¬D k):F=aB:=by have:F.h0=aB.h0:=funext fun b=>H.cH b fun k ay=>absurd ay (h k);cases F;cases aB;have hw:=H.w;simp only at this hw;rw [this,hw]
theorem Cert.advance (C:Cert P az ops calls es bb a1 dk aA e8 order aF N M lit) {aB:Fr} {listed:Array Bool} {E:Env} {w:World}:∀(d q:Nat),q+d=N->(∀k o,ops[k]? =some o->hl o=true->q<=posOf aF k->¬listed.getD k false=true)->
 ∀F,Holds aB F es aA aF (kJ ops es aA aF listed q)->ba F E (cr es aA q) w->
 ∃s dn,s ∈ e8/\q<=s/\s<=N/\(∀k o,ops[k]? =some o->eR P o=true->q<=posOf aF k->s<=posOf aF k)/\Holds aB dn es aA aF (kJ ops es aA aF listed s)/\ba dn E (cr es aA s) w
 | 0,q,aq,_,F,H,S=>by
   have:q=N:=by omega
   subst this;exact ⟨q,F,C.ends,am6 _,am6 _,fun k o _ _ h=>h,H,S⟩
 | d+1,q,aq,tT,F,H,S=>by
   obtain ⟨i,aL,ku⟩:=C.mc q (by have:=C.B3;omega);have cP:ops[i]? =some ops[i]:=ani aL;cases np:eR P ops[i] with
   | true=>exact ⟨q,F,by rw [<-ku];exact C.mem i _ cP np,am6 _,by omega,fun k o _ _ h=>h,H,S⟩
   | false=>
     obtain ⟨e,J,ad,aD⟩:=C.step i ops[i] cP (by omega);rw [ku] at J ad;have tQ:cr es aA q=e.h:=by simp [cr,J]
     have only:∀k o,ops[k]? =some o->posOf aF k=q->k=i:=fun k o ay ak=>C.w2 (am1.1 ay).1 aL (by rw [ak,ku]);have fin:∀dn,Holds aB dn es aA aF (kJ ops es aA aF listed (q+1))->ba dn E (cr es aA (q+1)) w->
      ∃s dn,s ∈ e8/\q<=s/\s<=N/\(∀k o,ops[k]? =some o->eR P o=true->q<=posOf aF k->s<=posOf aF k)/\Holds aB dn es aA aF (kJ ops es aA aF listed s)/\ba dn E (cr es aA s) w:=by
      intro dn k2 Vq;obtain ⟨s,zT,g1,g2,g3,g4,g5,g6⟩:=Cert.advance C d (q+1) (by omega) (fun k o J ad aD=>tT k o J ad (by omega)) dn k2 Vq;refine ⟨s,zT,g1,by omega,g3,fun k o ay ao ak=>g4 k o ay ao ?_,g5,g6⟩;by_cases mB:posOf aF k=q
      . have:=only k o ay mB;subst this;rw [cP] at ay;cases ay;rw [np] at ao;cases ao
      . omega
     have pass:cr es aA (q+1)=e.h->(hl ops[i]=true->¬Made es aA aF i)->∃s dn,s ∈ e8/\q<=s/\s<=N/\(∀k o,ops[k]? =some o->eR P o=true->q<=posOf aF k->s<=posOf aF k)/\Holds aB dn es aA aF (kJ ops es aA aF listed s)/\ba dn E (cr es aA s) w:=by
      intro yE l2;rw [<-tQ] at yE;refine fin F (H.congr fun k=>⟨?_,?_⟩) (by rw [yE];exact S)
      . rintro ⟨o,ag,av,aI,bU⟩;refine ⟨o,ag,av,aI,?_⟩;have:posOf aF k≠q:=fun e=>by
         have:=only k o ag e;subst this;rw [cP] at ag;cases ag;exact l2 av.1 av.2
        omega
      . rintro ⟨o,ag,av,aI,bU⟩;exact ⟨o,ag,av,aI,by omega⟩
     cases bF:hl ops[i] with
     | true=>
      rcases O1 bF ad with ⟨dy,bY,b_⟩ | ⟨bY,_⟩
      ·
       have aM:=S.hold dy;have aX:nameAt es aA aF i=aC (cr es aA q).next:=by unfold nameAt;rw [ku]
       have aj:Ar es aA aF i=dy:=by unfold Ar;rw [aX,ku,bY,tQ,ah.jt,anb rfl]
       rw [tQ,<-bY] at aM;have ach:Made es aA aF i:=by unfold Made;rw [ku,bY,tQ];exact Nat.succ_ne_self _
       have rr:¬listed.getD i false=true:=tT i _ cP bF (by omega);have Hn:∀k,kJ ops es aA aF listed (q+1) k->k=i\/kJ ops es aA aF listed q k:=by
        rintro k ⟨o,ag,av,aI,bU⟩;by_cases mB:posOf aF k=q
        . exact .inl (only k o ag mB)
        . exact .inr ⟨o,ag,av,aI,by omega⟩
       have fresh:∀b yR,F.h0 b=some yR->b≠nameAt es aA aF i:=by intro b yR rf heq;obtain ⟨_,_,j,BA,wG⟩:=S.pJ b yR rf;rw [heq,aX] at wG;rw [tQ] at BA wG;have:=lF wG;omega
       have Rb:∀b,b≠nameAt es aA aF i->(F.hold (aC e.h.next) dy).h0 b=F.h0 b:=by intro b P8;rw [aX,tQ] at P8;simp only [Fr.hold,am7 P8]
       have Wg:(F.hold (aC e.h.next) dy).h0 (nameAt es aA aF i)=some dy:=by rw [aX,tQ];simp only [Fr.hold,anz]
       have ne:∀k,kJ ops es aA aF listed q k->nameAt es aA aF k≠nameAt es aA aF i:=fun k ay=>fresh _ _ (H.new k ay).1;refine fin (F.hold (aC e.h.next) dy) ⟨H.w,fun b rf=>?_,fun k ay=>?_,fun k bx ay ir he=>?_⟩ aM
       . have vQ:b≠nameAt es aA aF i:=fun e=>rf i ⟨_,cP,⟨bF,ach⟩,rr,by omega⟩ e.symm;rw [Rb b vQ];exact H.cH b fun k ay=>rf k (by obtain ⟨o,ag,av,aI,bU⟩:=ay;exact ⟨o,ag,av,aI,by omega⟩)
       . rcases Hn k ay with rfl | ay
         . refine ⟨by rw [Wg,aj],?_⟩;cases ak:aB.h0 (nameAt es aA aF k) with
           | none=>rfl
           | some yR=>
             exfalso;have:=H.cH (nameAt es aA aF k) fun bx ir=>ne bx ir;rw [ak] at this;exact fresh _ _ this rfl
         . rw [Rb _ (ne k ay)];exact H.new k ay
       . rcases Hn k ay with rfl | ay<;>rcases Hn bx ir with rfl | ir
         . rfl
         . exact absurd he.symm (ne bx ir)
         . exact absurd he (ne k ay)
         . exact H.inj k bx ay ir he
      . refine pass bY fun _ hm=>hm ?_;rw [ku,bY,tQ]
     | false=>
       have ez:ft P ops[i].op=false:=by unfold eR at np;rw [bF] at np;simpa using np
       exact pass (vx ez ad).1 fun h=>by rw [bF] at h;cases h
structure qV (P:Program) (aB:Fr) (az:Nat) (ops:Array Oper) (es:List fr) (bb:bN) (aA:ah) (e8 aF:List Nat) (iC:Env) (N:Nat) (D:List Deferred) (listed:Array Bool) (a:Act) (w:World):Prop where
 sV:listed.size=ops.size
 size:a.tmps.size=az
 defers:a.defers=D
 tz:∀k,listed.getD k false=true->posOf aF k<N
 down:qX ops fun k=>listed.getD k false=true
 main:∃E s F,iC.le E/\s ∈ e8/\s<=N/\(∀k o,ops[k]? =some o->eR P o=true->(listed.getD k false=true↔posOf aF k<s))/\
  (∀k o,ops[k]? =some o->hl o=true->listed.getD k false=true->posOf aF k<s)/\Holds aB F es aA aF (kJ ops es aA aF listed s)/\ba F E (cr es aA s) w/\
  ∀t,t<=top->(∃k o e,listed.getD k false=true/\ops[k]? =some o/\o.dst=some t/\es[posOf aF k]? =some e/\Rel E e.v (a.tmps.getD t undef))\/
   ((∀k o,listed.getD k false=true->ops[k]? =some o->o.dst≠some t)/\Rel E (T.get .bad (aC t) bb) (a.tmps.getD t undef))
theorem tI {l:Array Bool} {i:Nat}:l.getD i false=true↔l[i]? =some true:=by
 rw [anq];cases l[i]? with
 | none=>simp
 | some b=>cases b<;>simp
theorem gk {l:Array Bool} {i k:Nat} (au:i<l.size):(l.setIfInBounds i true).getD k false=true↔(k=i\/l.getD k false=true):=by
 rw [tI,tI,ank];by_cases h:i=k
 . subst h;simp [au]
 . have:¬k=i:=fun e=>h e.symm;simp [h,this]
theorem DK {r:bN} {t:Nat} (aE:t<=top):∀{l:List Oper},T.get .bad (aC t) (pj r l)=.bad\/(T.get .bad (aC t) (pj r l)=T.get .bad (aC t) r/\∀o ∈ l,o.dst≠some t)
 | []=>.inr ⟨rfl,fun o a8=>by simp at a8⟩
 | o::os=>by
   simp only [pj];cases aZ:o.dst with
   | none=>
     simp only;rcases DK (r:=r) aE (l:=os) with h | ⟨J,ad⟩
     . exact .inl h
     . exact .inr ⟨J,fun cn ia=>by
        rcases ans.1 ia with rfl | ia
        . rw [aZ];simp
        . exact ad cn ia⟩
   | some d=>
     simp only;cases aj:Nat.ble d top with
     | true=>
       simp only [am4];rw [T.iH];by_cases vW:d=t
       . subst vW;rw [anb rfl];exact .inl rfl
       . rw [am7 (fun e=>vW (lF e))];rcases DK (r:=r) aE (l:=os) with h | ⟨J,ad⟩
         . exact .inl h
         . exact .inr ⟨J,fun cn ia=>by
            rcases ans.1 ia with rfl | ia
            . rw [aZ];simpa using vW
            . exact ad cn ia⟩
     | false=>
       simp only [anf];have vW:d≠t:=fun e=>by subst e;rw [<-Nat.ble_eq] at aE;rw [aE] at aj;cases aj
       rcases DK (r:=r) aE (l:=os) with h | ⟨J,ad⟩
       . exact .inl h
       . exact .inr ⟨J,fun cn ia=>by
          rcases ans.1 ia with rfl | ia
          . rw [aZ];simpa using vW
          . exact ad cn ia⟩
theorem DJ {r:bN}:∀{l:List Oper},T.get .bad fs (pj r l)=T.get .bad fs r
 | []=>rfl
 | o::os=>by
   simp only [pj];cases aZ:o.dst with
   | none=>exact DJ
   | some d=>
     simp only;cases aj:Nat.ble d top with
     | true=>
       simp only [am4];rw [T.iH,am7 (w0 (anx aj))];exact DJ
     | false=>exact DJ
theorem O7 {rd:Option Nat} {D:List Deferred} {aB:Fr} (aK:e6 P) (c':∀i,ht P (calls i)) (ee:∀i,hG P (calls i)) (C:Cert P az ops calls es bb a1 dk aA e8 order aF N M lit) {iC:Env} {listed:Array Bool} {a:Act} {w:World} (I:qV P aB az ops es bb aA e8 aF iC N D listed a w)
 {i:Nat} (au:i ∈ Region.ready .any ops listed) (ab0:posOf aF i<M) (v':lit=true->∀o k ok,ops[i]? =some o->l6 o=true->ops[k]? =some ok->l6 ok=true->posOf aF k<posOf aF i->listed.getD k false=true) {Q:Exit->Act->World->Prop} {K:Act->World->Prop} (dU:∀bt w',qV P aB az ops es bb aA e8 aF iC N D (listed.setIfInBounds i true) bt w'->K bt w')
 (dV:∀aw bt w' x v aa,iC.le aw->N<ops.size->ops.size<=M->(∃i0 iz,ops[i0]? =some iz/\posOf aF i0=N/\(cU P az ops iz).run (calls i0) dk aA=.cY v aa)->RegRel0 aw az (pj bb ops.toList) bt->bt.defers=D->Rel aw v x->ba aB aw aa w'->Q (.panic (qE x)) bt w'):wpOpIn (cb rd) 0 P ops Q i K a w:=by
 rw [mem_ready] at au;obtain ⟨E,s,F,j5,aM,ry,nq,du,kS,rv,wv⟩:=I.main;obtain ⟨tT,o,cP,vX⟩:=au;have fa:i<ops.size:=(am1.1 cP).1;have tU:¬listed.getD i false=true:=by rw [tI];intro h;rw [anq,h] at tT;simp at tT
 have Qz:=BZ I.down ops.toList [] (fun j=>by simp) (fun k m j ay=>by simp at ay);have ye:qX ops fun k=>listed.getD k false=true\/k=i:=by
  intro k ok e ay bC he aj;rcases ay with ay | rfl
  . exact .inl (I.down k ok e ay bC he aj)
  . rw [cP] at bC;cases bC;exact .inl (vX e (aoD.1 he) (by rw [xQ];exact aj))
 have acf:=BZ ye ops.toList [] (fun j=>by simp) (fun k m j ay=>by simp at ay);obtain ⟨c7,ns,i',En⟩:=C.nX i o cP;have En:=En ab0;have H':=C.Sx;have AY:∀k,k≠i->gx c7 k=true->listed.getD k false=true:=by
  intro k ay aj;rcases acf i c7 k ns aj (.inr rfl) with h | h
  . exact h
  . exact absurd h ay
 have kv:=(C.iQ i fa).1;have acy:posOf aF i<=N:=by
  rcases an7 N (posOf aF i) with abW | hle
  . exfalso;have D7:ops.size<=M:=by
     rcases an7 M ops.size with h | h
     . have:=(C.tail h).1;omega
     . exact h
    obtain ⟨i0,iz,m0,c9,z2,z3,z4,z5,_⟩:=C.stop (by omega) D7;have aj:=z5 i o c7 cP abW ns;have J:=AY i0 (fun e=>by subst e;omega) aj;have:=I.tz i0 J;omega
  . exact hle
 have uniq:∀(k bx:Nat) (ok lC:Oper) (t:Nat),ops[k]? =some ok->ops[bx]? =some lC->posOf aF k<M->posOf aF bx<M->ok.dst=some t->lC.dst=some t->k=bx:=by
  intro k bx ok lC t J ad b8 cF aD bn;obtain ⟨mk,_,_,ak⟩:=C.nX k ok J;obtain ⟨mk',_,iK,_⟩:=ak b8 bx lC ad cF;unfold pI at iK;rw [h7] at iK;by_cases jQ:k=bx
  . exact jQ
  . rw [am7 jQ,bn,aD] at iK;simp at iK
 have TC:ji (b2 ops o)=true->∀t ∈ b2 ops o,Rel E (T.get .bad (aC t) (e2 es dk (posOf aF i))) (a.tmps.getD t undef):=by
  intro kx t aE;have rB:t<=top:=by have:=anr.1 kx t aE;exact anx this
  have SZ:∀(k:Nat) (ok:Oper),k≠i->posOf aF k<M->ops[k]? =some ok->ok.dst=some t->∃mk,(fi [] ops.toList)[k]? =some mk/\(posOf aF k<posOf aF i->gx c7 k=true)/\(¬posOf aF k<posOf aF i->gx mk i=true):=by
   intro k ok ay IG bC aZ;obtain ⟨mk,ag,av,_⟩:=En k ok bC IG;refine ⟨mk,ag,?_⟩;unfold pI at av;rw [h7,am7 (fun e=>ay e.symm),aZ] at av;simp only [amX] at av;have aI:=av.1;rw [show (b2 ops o).contains t=true from by simpa using aE] at aI;simp only [am4] at aI;refine ⟨fun aL=>?_,fun ks=>?_⟩
   . rw [show Nat.blt (posOf aF k) (posOf aF i)=true from by rw [anF];exact aL] at aI;exact aI
   . rw [show Nat.blt (posOf aF k) (posOf aF i)=false from by rw [<-Bool.not_eq_true,anF];exact ks] at aI;exact aI
  rcases C.Kz (posOf aF i) acy t rB with ⟨k,ok,DF,ag,av,aI,bU,c8⟩ | ⟨ag,av⟩
  . obtain ⟨mk,_,dc,_⟩:=SZ k ok (fun e=>by subst e;omega) (by omega) av aI;have acd:=AY k (fun e=>by subst e;omega) (dc ag);rcases wv t rB with ⟨bx,lC,HA,cf,cd,eU,kf,pH⟩ | ⟨cf,_⟩
    . have:=uniq k bx ok lC t av cd (by omega) (by have:=I.tz bx cf;omega) aI eU;subst this;rw [bU] at kf;cases kf;rw [c8];exact pH
    . exact absurd aI (cf k ok acd av)
  . rcases wv t rB with ⟨bx,lC,HA,cf,cd,eU,kf,pH⟩ | ⟨_,cd⟩
    . have hj:bx≠i:=fun e=>tU (e ▸ cf);obtain ⟨mk,m1,_,c4⟩:=SZ bx lC hj (by have:=I.tz bx cf;omega) cd eU;by_cases aL:posOf aF bx<posOf aF i
      . exact absurd eU (ag bx lC aL cd)
      . exact absurd (Qz bx mk i m1 (c4 aL) cf) tU
    . rw [av];exact cd
 have level:ft P o.op=true->s<=posOf aF i->s=posOf aF i/\hl o=false:=by
  intro mx hle;rcases C.Un s aM with (h | ⟨h,D6⟩) | ⟨k,ok,bY,b_,ej⟩
  . omega
  . omega
  . have QE:¬listed.getD k false=true:=fun h=>by have:=(nq k ok bY b_).1 h;omega
    have qi:=(am1.1 bY).1;by_cases hj:k=i
    . subst hj;rw [cP] at bY;cases bY;refine ⟨ej,?_⟩;unfold eR at b_;simpa [mx] using b_
    . have aL:posOf aF k<posOf aF i:=by
       have:posOf aF k≠posOf aF i:=fun e=>hj (C.w2 qi fa e);omega
      obtain ⟨mk,_,_,aI⟩:=En k ok bY (by omega);rcases aI mx b_ aL with h | ⟨g1,g2,g3⟩
      . exact absurd (AY k hj h) QE
      . exact absurd (v' g1 o k ok cP g2 bY g3 aL) QE
 rcases an7 (posOf aF i) N with IM | alZ
 case inr=>
  have lp:posOf aF i=N:=by omega
  have D7:ops.size<=M:=by
   rcases an7 M ops.size with h | h
   . have:=(C.tail h).1;omega
   . exact h
  obtain ⟨i0,iz,m0,c9,z2,z3,z4,z5,alr,v,aa,Ld⟩:=C.stop (by omega) D7;have ab2:i0=i:=C.w2 (am1.1 c9).1 fa (by rw [z2,lp]);subst ab2;rw [cP] at c9;cases c9;rw [ns] at z4;cases z4;obtain ⟨mx,acm⟩:=Sn z3;have yj:eR P o=true:=by unfold eR;rw [mx,acm];rfl
  have sH:s<=posOf aF i0:=by
   rcases an7 (posOf aF i0) s with h | h
   . exact absurd ((nq i0 o cP yj).2 h) tU
   . exact h
  have yF:=(level mx sH).1;have pq:F=aB:=kS.none fun k ay=>by
   obtain ⟨ok,ag,av,aI,bU⟩:=ay;have hj:k≠i0:=fun e=>by subst e;omega
   exact aI (AY k hj (alr k ok ag av.1 (by omega)))
  subst pq;have d_:es[N]? =none:=anv (by rw [C.len];exact am6 _);have lr:=TC (OZ Ld).2;rw [lp] at lr;simp only [e2,d_] at lr;rw [yF,lp] at rv;simp only [cr,d_] at rv;refine ZD aK (c' i0) (ee i0) cP Ld z3 I.size lr rv fun aw x w' ag av aI=>dV aw a w' x v aa (j5.trans ag) (by omega) D7 ⟨i0,o,cP,lp,Ld⟩ ⟨I.size,fun t aE=>?_⟩ I.defers av aI;rcases DK (r:=bb) aE (l:=ops.toList) with h | ⟨J,ad⟩
  . rw [h];simp [Rel]
  . rw [J];rcases wv t aE with ⟨k,ok,DF,cf,cd,eU,kf,pH⟩ | ⟨cf,cd⟩
    . exact absurd eU (ad ok (by rw [<-Array.getElem?_toList] at cd;exact anE cd))
    . exact Rel.mono ag _ _ cd
 obtain ⟨e,rh,df,ama⟩:=C.step i o cP IM;have hW:=k9 df;have fh:e2 es dk (posOf aF i)=e.r:=by simp [e2,rh]
 have h_:cr es aA (posOf aF i)=e.h:=by simp [cr,rh]
 have reads:=TC hW.2;rw [fh] at reads;have gN:i<listed.size:=by rw [I.sV];exact fa
 have after:∀(h3:Nat) (dn:Fr) (aw:Env) (x:Value) (w':World),h3 ∈ e8->h3<=N->(∀k ok,ops[k]? =some ok->eR P ok=true->((k=i\/listed.getD k false=true)↔posOf aF k<h3))->
  (∀k ok,ops[k]? =some ok->hl ok=true->(k=i\/listed.getD k false=true)->posOf aF k<h3)->
  Holds aB dn es aA aF (kJ ops es aA aF (listed.setIfInBounds i true) h3)->E.le aw->Rel aw e.v x->ba dn aw (cr es aA h3) w'->
  qV P aB az ops es bb aA e8 aF iC N D (listed.setIfInBounds i true) (a.put o.dst x) w':=by
  intro h3 dn aw x w' j' acS gm abp abX hle ar acQ
  refine ⟨by simp [I.sV],by cases h:o.dst<;>simp [Act.put,I.size],by cases h:o.dst<;>simp [Act.put,I.defers],fun k ay=>by
   rcases (gk gN).1 ay with rfl | ay
   . exact IM
   . exact I.tz k ay,?_,aw,h3,dn,j5.trans hle,j',acS,fun k ok J ad=>by rw [gk gN];exact gm k ok J ad,
   fun k ok J ad aD=>abp k ok J ad ((gk gN).1 aD),abX,acQ,fun t aE=>?_⟩
  . intro k ok dI ay bC e_ aj;rw [gk gN] at ay ⊢;rcases ye k ok dI ay.symm bC e_ aj with h | h
    . exact .inr h
    . exact .inl h
  . by_cases aZ:o.dst=some t
    . refine .inl ⟨i,o,e,by rw [gk gN];exact .inl rfl,cP,aZ,rh,?_⟩;have aL:t<a.tmps.size:=by
       have:=hW.1;rw [aZ] at this;simp only [fG,amX,anF] at this;rw [I.size];exact this.1
      rw [aZ];simp only [Act.put];rw [anq,ank,anb rfl,anb aL];exact ar
    . have eL:(a.put o.dst x).tmps.getD t undef=a.tmps.getD t undef:=by
       cases acr:o.dst with
       | none=>rfl
       | some d=>
         simp only [Act.put];rw [anq,anq,ank,am7 (fun e=>aZ (by rw [acr,e]))]
      rw [eL];rcases wv t aE with ⟨k,ok,DF,cf,cd,eU,kf,pH⟩ | ⟨cf,cd⟩
      . exact .inl ⟨k,ok,DF,by rw [gk gN];exact .inr cf,cd,eU,kf,Rel.mono hle _ _ pH⟩
      . refine .inr ⟨fun k ok ay bC=>?_,Rel.mono hle _ _ cd⟩;rw [gk gN] at ay;rcases ay with rfl | ay
        . rw [cP] at bC;cases bC;exact aZ
        . exact cf k ok ay bC
 have It:¬(hl o=true/\Made es aA aF i)->∀h3 k,kJ ops es aA aF (listed.setIfInBounds i true) h3 k↔kJ ops es aA aF listed h3 k:=by
  intro bF h3 k;constructor
  . rintro ⟨ok,ag,av,aI,bU⟩;exact ⟨ok,ag,av,fun h=>aI ((gk gN).2 (.inr h)),bU⟩
  . rintro ⟨ok,ag,av,aI,bU⟩;refine ⟨ok,ag,av,fun h=>?_,bU⟩;rcases (gk gN).1 h with rfl | h
    . rw [cP] at ag;cases ag;exact bF av
    . exact aI h
 cases mx:ft P o.op with
 | true=>
   cases bF:hl o with
   | true=>
     have aL:posOf aF i<s:=by
      rcases an7 (posOf aF i) s with h | h
      . exact h
      . have:=(level mx h).2;rw [bF] at this;cases this
     by_cases hm:Made es aA aF i
     case neg=>
      have I':(cU P az ops o).run (calls i) e.r (cr es aA s)=.val e.v (cr es aA s):=by
       rcases O1 bF df with ⟨dy,bY,_⟩ | ⟨_,bY⟩
       . exact absurd (show Made es aA aF i from by unfold Made;rw [bY,h_];exact Nat.succ_ne_self _) hm
       . exact bY _
      refine q7 aK (c' i) (ee i) cP I' I.size reads rv fun aw x w' ag av aI=>dU _ _ (after s F aw x w' aM ry (fun k ok bC jx=>?_) (fun k ok bC qh ay=>?_) (kS.congr fun k=>It (fun h=>hm h.2) s k) ag av aI)
      . constructor
        . rintro (rfl | h)
          . rw [cP] at bC;cases bC;unfold eR at jx;rw [bF] at jx;simp at jx
          . exact (nq k ok bC jx).1 h
        . intro h;exact .inr ((nq k ok bC jx).2 h)
      . rcases ay with rfl | ay
        . exact aL
        . exact du k ok bC qh ay
     have nm:kJ ops es aA aF listed s i:=⟨o,cP,⟨bF,hm⟩,tU,aL⟩;have IP:(cr es aA (posOf aF i+1)).next≠e.h.next:=by rw [<-h_];exact hm
     have l2:nameAt es aA aF i=aC e.h.next:=by unfold nameAt;rw [h_]
     have nu:=(kS.new i nm).1;have yL:=(kS.new i nm).2;have nZ:Ar es aA aF i=(cr es aA (posOf aF i+1)).get (aC e.h.next):=by unfold Ar;rw [l2]
     rw [l2,nZ] at nu;refine ZB cP bF df I.size reads rv IP nu fun aw x w' ag av aI=>dU _ _ (after s (F.free (aC e.h.next)) aw x w' aM ry (fun k ok bC jx=>?_) (fun k ok bC qh ay=>?_) ?_ ag av aI)
     . constructor
       . rintro (rfl | h)
         . rw [cP] at bC;cases bC;unfold eR at jx;rw [bF] at jx;simp at jx
         . exact (nq k ok bC jx).1 h
       . intro h;exact .inr ((nq k ok bC jx).2 h)
     . rcases ay with rfl | ay
       . exact aL
       . exact du k ok bC qh ay
     . have sub:∀k,kJ ops es aA aF (listed.setIfInBounds i true) s k->kJ ops es aA aF listed s k/\k≠i:=by
        rintro k ⟨ok,ag,av,aI,bU⟩;refine ⟨⟨ok,ag,av,fun h=>aI ((gk gN).2 (.inr h)),bU⟩,fun e=>aI ((gk gN).2 (.inl e))⟩
       refine ⟨kS.w,fun b aj=>?_,fun k ay=>?_,fun k bx ay ir=>kS.inj k bx (sub k ay).1 (sub bx ir).1⟩
       . by_cases vQ:b=aC e.h.next
         . subst vQ;simp only [Fr.free,anz];rw [<-l2,yL]
         . simp only [Fr.free,am7 vQ];refine kS.cH b fun k ay=>?_;by_cases hj:k=i
           . subst hj;rw [l2];exact fun e=>vQ e.symm
           . obtain ⟨ok,ag,av,aI,bU⟩:=ay;refine aj k ⟨ok,ag,av,fun h=>?_,bU⟩;rcases (gk gN).1 h with h | h
             . exact hj h
             . exact aI h
       . obtain ⟨Qn,hj⟩:=sub k ay;have ez:nameAt es aA aF k≠aC e.h.next:=fun e=>hj (kS.inj k i Qn nm (by rw [e,l2]))
         simp only [Fr.free,am7 ez];exact kS.new k Qn
   | false=>
     have yj:eR P o=true:=by unfold eR;rw [mx,bF];rfl
     have sH:s<=posOf aF i:=by
      rcases an7 (posOf aF i) s with h | h
      . exact absurd ((nq i o cP yj).2 h) tU
      . exact h
     have yF:=(level mx sH).1;rw [<-h_,<-yF] at df;refine q7 aK (c' i) (ee i) cP df I.size reads rv fun aw x w' ag av aI=>?_;rw [yF] at aI;have acb:∀k ok,ops[k]? =some ok->hl ok=true->posOf aF i+1<=posOf aF k->¬(listed.setIfInBounds i true).getD k false=true:=by
      intro k ok bC qh ak h;rcases (gk gN).1 h with rfl | h
      . omega
      . have:=du k ok bC qh h;omega
     have abZ:Holds aB F es aA aF (kJ ops es aA aF (listed.setIfInBounds i true) (posOf aF i+1)):=by
      refine kS.congr fun k=>?_;rw [It (fun h=>by rw [bF] at h;cases h.1)];constructor
      . rintro ⟨ok,c9,z2,z3,z4⟩;refine ⟨ok,c9,z2,z3,?_⟩;have qi:=(am1.1 c9).1;have:posOf aF k≠posOf aF i:=fun e=>by
         have:=C.w2 qi fa e;subst this;rw [cP] at c9;cases c9;rw [bF] at z2;cases z2.1
        omega
      . rintro ⟨ok,c9,z2,z3,z4⟩;exact ⟨ok,c9,z2,z3,by omega⟩
     obtain ⟨h3,dn,g1,g2,g3,g4,g5,g6⟩:=C.advance (N - (posOf aF i+1)) (posOf aF i+1) (by omega) acb F abZ aI;refine dU _ _ (after h3 dn aw x w' g1 g3 (fun k ok bC jx=>?_) (fun k ok bC qh ay=>?_) g5 ag av g6)
     . have qi:=(am1.1 bC).1;constructor
       . rintro (rfl | h)
         . omega
         . have:=(nq k ok bC jx).1 h;omega
       . intro h;by_cases hj:k=i
         . exact .inl hj
         . refine .inr ((nq k ok bC jx).2 ?_);rcases an7 (posOf aF k) s with bo | bo
           . exact bo
           . have ez:posOf aF k≠posOf aF i:=fun e=>hj (C.w2 qi fa e);have:=g4 k ok bC jx (by omega);omega
     . rcases ay with rfl | ay
       . omega
       . have:=du k ok bC qh ay;omega
 | false=>
   have bF:hl o=false:=by
    cases h:hl o with
    | false=>rfl
    | true=>rw [adz h] at mx;cases mx
   obtain ⟨c,ao,I'⟩:∃c,(ht P c/\hG P c)/\(cU P az ops o).run c e.r (cr es aA s)=.val e.v (cr es aA s):=by
    cases eE:looks o.op with
    | false=>exact ⟨_,⟨c' i,ee i⟩,(vx mx df).2 eE _⟩
    | true=>
      obtain ⟨dI,ag,av⟩:=C.ask i o cP eE mx IM;rw [rh] at ag;cases ag
      obtain ⟨c,aa,ao,aI⟩:=av s aM (Le (by rw [JW];simp) fun k mk ok J ad=>by
       simp only [anB];have bC:ops[k]? =some ok:=by simpa using ad
       cases wa:eR P ok with
       | false=>rfl
       | true=>
         simp only [am4];cases ys:Nat.blt (posOf aF k) s with
         | true=>
           rw [anF] at ys;simp only [am4,an1];cases aj:gx mk i with
           | false=>rfl
           | true=>exact absurd (Qz k mk i J aj ((nq k ok bC wa).2 ys)) tU
         | false=>
           have ab8:¬posOf aF k<s:=by rw [<-Nat.blt_eq,ys];simp
           simp only [anf,an1,ns,aop];cases aj:gx c7 k with
           | false=>rfl
           | true=>
             by_cases hj:k=i
             . subst hj;rw [cP] at bC;cases bC;unfold eR at wa;rw [mx] at wa;cases wa
             . exact absurd ((nq k ok bC wa).1 (AY k hj aj)) ab8)
      rw [(vx mx aI).1] at aI;exact ⟨c,ao,aI⟩
   refine q7 aK ao.1 ao.2 cP I' I.size reads rv fun aw x w' ag av aI=>dU _ _ (after s F aw x w' aM ry (fun k ok bC jx=>?_) (fun k ok bC qh ay=>?_) (kS.congr fun k=>It (fun h=>by rw [bF] at h;cases h.1) s k) ag av aI)
   . constructor
     . rintro (rfl | h)
       . rw [cP] at bC;cases bC;unfold eR at jx;rw [mx] at jx;cases jx
       . exact (nq k ok bC jx).1 h
     . intro h;exact .inr ((nq k ok bC jx).2 h)
   . rcases ay with rfl | ay
     . rw [cP] at bC;cases bC;rw [bF] at qh;cases qh
     . exact du k ok bC qh ay
theorem OY {D:List Deferred} {aB:Fr} (C:Cert P az ops calls es bb a1 dk aA e8 order aF N M lit) {iC:Env} (H':N<=M) {listed:Array Bool} {a:Act} {w:World} (I:qV P aB az ops es bb aA e8 aF iC N D listed a w)
 (du:∀k,k<ops.size->posOf aF k<N->listed.getD k false=true):∃aw,iC.le aw/\RegRel0 aw az dk a/\a.defers=D/\ba aB aw aA w:=by
 obtain ⟨E,s,F,j5,aM,ry,nq,_,kS,rv,wv⟩:=I.main;have d_:es[N]? =none:=anv (by rw [C.len];exact am6 _);have v8:cr es aA N=aA:=by simp [cr,d_]
 have QP:e2 es dk N=dk:=by simp [e2,d_]
 have yF:s=N:=by
  rcases C.Un s aM with (h | ⟨h,_⟩) | ⟨k,ok,bY,b_,ej⟩
  . have:=C.B3;omega
  . exact h
  . rcases an7 s N with aL | ks
    . have:=(nq k ok bY b_).1 (du k (am1.1 bY).1 (by omega));omega
    . omega
 subst yF;have pq:F=aB:=kS.none fun k ay=>by obtain ⟨ok,ag,av,aI,bU⟩:=ay;exact aI (du k (am1.1 ag).1 bU)
 subst pq;rw [v8] at rv;have D6:∀k,posOf aF k<s->posOf aF k<M:=fun k h=>by omega
 refine ⟨E,j5,⟨I.size,fun t aE=>?_⟩,I.defers,rv⟩;have ac1:∀(k bx:Nat) (ok lC:Oper),ops[k]? =some ok->ops[bx]? =some lC->posOf aF k<s->posOf aF bx<s->ok.dst=some t->lC.dst=some t->k=bx:=by
  intro k bx ok lC J ad b8 cF aD bn;obtain ⟨mk,_,_,ak⟩:=C.nX k ok J;obtain ⟨mk',_,iK,_⟩:=ak (D6 k b8) bx lC ad (D6 bx cF);unfold pI at iK;rw [h7] at iK;by_cases jQ:k=bx
  . exact jQ
  . rw [am7 jQ,bn,aD] at iK;simp at iK
 rcases C.Kz s (am6 _) t aE with ⟨k,ok,DF,ag,av,aI,bU,c8⟩ | ⟨ag,av⟩
 . rw [QP] at c8;rcases wv t aE with ⟨bx,lC,HA,cf,cd,eU,kf,pH⟩ | ⟨cf,_⟩
   . have:=ac1 k bx ok lC av cd ag (I.tz bx cf) aI eU;subst this;rw [bU] at kf;cases kf;rw [c8];exact pH
   . exact absurd aI (cf k ok (du k (am1.1 av).1 ag) av)
 . rw [QP] at av;rcases wv t aE with ⟨bx,lC,HA,cf,cd,eU,kf,pH⟩ | ⟨_,cd⟩
   . exact absurd eU (ag bx lC (I.tz bx cf) cd)
   . rw [av];exact cd
theorem O6 {rd:Option Nat} {D:List Deferred} {aB:Fr} (aK:e6 P) (c':∀i,ht P (calls i)) (ee:∀i,hG P (calls i)) (C:Cert P az ops calls es bb a1 dk aA e8 order aF N M false) {iC:Env} {Q:Exit->Act->World->Prop}
 (dV:N=ops.size->∀aw bt w',iC.le aw->RegRel0 aw az dk bt->bt.defers=D->ba aB aw aA w'->Q .normal bt w')
 (hy:∀aw bt w' x v aa,iC.le aw->N<ops.size->ops.size<=M->(∃i0 iz,ops[i0]? =some iz/\posOf aF i0=N/\(cU P az ops iz).run (calls i0) dk aA=.cY v aa)->RegRel0 aw az (pj bb ops.toList) bt->bt.defers=D->Rel aw v x->ba aB aw aa w'->Q (.panic (qE x)) bt w')
 (eo:M<ops.size->∀(fuel:Nat) (listed:Array Bool) aw bt w',(List.range ops.size).countP (fun i=>!listed.getD i false)<=fuel->listed.size=ops.size->qX ops (fun k=>listed.getD k false=true)->(∀k,k<ops.size->(listed.getD k false=true↔posOf aF k<N))->
   iC.le aw->RegRel0 aw az dk bt->bt.defers=D->ba aB aw aA w'->wpAnyIn (cb rd) 0 P .any ops Q fuel listed bt w'):∀(fuel:Nat) (listed:Array Bool) (a:Act) (w:World),(List.range ops.size).countP (fun i=>!listed.getD i false)<=fuel->
 qV P aB az ops es bb aA e8 aF iC N D listed a w->wpAnyIn (cb rd) 0 P .any ops Q fuel listed a w:=by
 have done:∀(listed:Array Bool) (a:Act) (w:World),qV P aB az ops es bb aA e8 aF iC N D listed a w->Region.ready .any ops listed=[]->∀i,i<ops.size->listed.getD i false=true:=by
  intro listed a w I aJ i
  induction i using Nat.strongRecOn with
  | _ i bA=>
    intro au;cases gN:listed.getD i false with
    | true=>rfl
    | false=>
      exfalso;have cP:ops[i]? =some ops[i]:=ani au;obtain ⟨c7,_,i',_⟩:=C.nX i _ cP;have:i ∈ Region.ready .any ops listed:=by
       rw [mem_ready];refine ⟨?_,ops[i],cP,fun e he aj=>?_⟩
       . have cy:i<listed.size:=by rw [I.sV];exact au
         rw [anq,ani cy] at gN ⊢;exact gN
       . have J:=anr.1 i' e (aoD.2 he);rw [xQ] at aj;rw [aj] at J;simp only [Bool.not_true,aoE,anF] at J;exact bA e.on J (by omega)
      rw [aJ] at this;simp at this
 have H':=C.Sx;have full:∀(listed:Array Bool) (a:Act) (w:World),qV P aB az ops es bb aA e8 aF iC N D listed a w->(∀k,k<ops.size->posOf aF k<N->listed.getD k false=true)->(N=ops.size\/(M<ops.size/\M=N))->
  ∃aw,iC.le aw/\RegRel0 aw az dk a/\a.defers=D/\ba aB aw aA w:=fun _ _ _ I du _=>OY C H' I du
 have finish:∀(listed:Array Bool) (a:Act) (w:World),qV P aB az ops es bb aA e8 aF iC N D listed a w->Region.ready .any ops listed=[]->Q .normal a w:=by
  intro listed a w I aJ;have du:=done listed a w I aJ;have H_:N=ops.size:=by
   rcases an7 N ops.size with aL | ks
   . exfalso;obtain ⟨i,da,gM⟩:=C.mc N aL;have:=I.tz i (du i da);omega
   . exact Nat.le_antisymm C.B3 ks
  obtain ⟨aw,g1,g2,g3,g4⟩:=full listed a w I (fun k ay _=>du k ay) (.inl H_);exact dV H_ aw a w g1 g2 g3 g4
 intro fuel
 induction fuel with
 | zero=>
   intro listed a w ao I;have du:∀i,i<ops.size->listed.getD i false=true:=by
    intro i au;have a1:(List.range ops.size).countP (fun i=>!listed.getD i false)=0:=by omega
    rw [List.countP_eq_zero] at a1;simpa using a1 i (aoy.2 au)
   have aJ:Region.ready .any ops listed=[]:=by
    cases aq:Region.ready .any ops listed with
    | nil=>rfl
    | cons j adP=>
      exfalso;have bJ:j ∈ Region.ready .any ops listed:=by rw [aq];simp
      rw [mem_ready] at bJ;obtain ⟨J,o,ad,_⟩:=bJ;have:=du j (am1.1 ad).1;rw [tI] at this;rw [anq,this] at J;simp at J
   exact ⟨aJ,finish listed a w I aJ⟩
 | succ fuel bA=>
   intro listed a w ao I;by_cases yI:M<ops.size/\∀k,k<ops.size->posOf aF k<N->listed.getD k false=true
   . obtain ⟨vN,du⟩:=yI;obtain ⟨aw,g1,g2,g3,g4⟩:=full listed a w I du (.inr ⟨vN,(C.tail vN).1⟩);exact eo vN (fuel+1) listed aw a w ao I.sV I.down (fun k ay=>⟨I.tz k,du k ay⟩) g1 g2 g3 g4
   have I5:∀i,i ∈ Region.ready .any ops listed->posOf aF i<M:=by
    intro i au;have gM:=au;rw [mem_ready] at gM;obtain ⟨J,o,ad,vX⟩:=gM;have fa:i<ops.size:=(am1.1 ad).1;rcases an7 M ops.size with vN | vN
    . obtain ⟨D6,yH⟩:=C.tail vN;rcases an7 (posOf aF i) N with aL | ks
      . omega
      . exfalso;refine yI ⟨vN,fun k ay IH=>?_⟩;obtain ⟨c7,ns,_⟩:=C.nX i o ad;have aj:=yH i o c7 ad ks ns k ay IH;have ye:qX ops fun k=>listed.getD k false=true\/k=i:=by
         intro k ok e ay bC he aj;rcases ay with ay | rfl
         . exact .inl (I.down k ok e ay bC he aj)
         . rw [ad] at bC;cases bC;exact .inl (vX e (aoD.1 he) (by rw [xQ];exact aj))
        rcases BZ ye ops.toList [] (fun j=>by simp) (fun k m j ay=>by simp at ay) i c7 k ns aj (.inr rfl) with h | h
        . exact h
        . subst h;omega
    . have:=(C.iQ i fa).1;omega
   refine ⟨fun aJ=>finish listed a w I aJ,fun i au=>?_⟩;refine O7 aK c' ee C I au (I5 i au) (fun h=>by cases h) (fun bt w' Gn=>bA _ bt w' ?_ Gn) hy;have gM:=au;rw [mem_ready] at gM;obtain ⟨J,o,ad,_⟩:=gM;have fa:i<ops.size:=(am1.1 ad).1;have gN:i<listed.size:=by rw [I.sV];exact fa
   have tU:listed.getD i false=false:=by rw [anq,ani gN] at J ⊢;exact J
   have:=Dy (fun k=>!listed.getD k false) (fun k=>!(listed.setIfInBounds i true).getD k false) (List.range ops.size)
    (fun k _ ay=>by
      simp only [an1] at ay ⊢;cases aq:listed.getD k false with
      | false=>rfl
      | true=>
        have:=(gk (k:=k) gN).2 (.inr aq);rw [ay] at this;cases this)
    ⟨i,aoy.2 fa,by simp [tU],by have:=(gk (k:=i) gN).2 (.inl rfl);simp [this]⟩
   omega
theorem ah.set_comm (h:ah) {b bV:aU} (ez:b≠bV) (k bx:cm):(h.set b k).set bV bx=(h.set bV bx).set b k:=by unfold ah.set;simp only;rw [T.put_comm _ _ _ _ _ _ (fun e=>ez e.symm)]
theorem KS {o:Oper} {x:Operand} (h:s_ o=some x):∃t y,o.op=.store t x y/\o.dst=none/\o.guard=none:=by
 unfold s_ at h
 split at h
 case h_2=>cases h
 rename_i t UZ y a8
 split at h
 case h_2=>cases h
 rename_i aZ
 split at h
 case h_2=>cases h
 rename_i al;cases h;exact ⟨t,y,a8,aZ,al⟩
theorem agd {h aa:ah} {b:aU} {off:Nat} {ai:List V} (he:lay h b off ai=some aa):∃k,aa=h.set b k/\∀H:ah,H.get b=h.get b->lay H b off ai=some (H.set b k):=by
 unfold lay at he ⊢;cases al:h.get b<;>rw [al] at he<;>simp only [cm.on] at he<;>try (cases he;done)
 obtain ⟨ao,J⟩:=fc he;cases J;refine ⟨_,rfl,fun H nm=>?_⟩;rw [nm];simp only [cm.on,ao,am4]
theorem O3 {all:Array Oper} {o:Oper} {x:Operand} {call:et} {r:bN} {h aa:ah} {v:V} (ar:s_ o=some x) (he:(cU P az all o).run call r h=.val v aa):
 ∃b off k,(bZ x).run (dM r (b2 all o))=.ptr b off/\aa=h.set b k/\∀H:ah,H.get b=h.get b->(cU P az all o).run call r H=.val v (H.set b k):=by
 obtain ⟨t,y,a8,aZ,al⟩:=KS ar;obtain ⟨J,ad⟩:=k9 he;have key:cU P az all o=⟨jO none (fP P o) (b2 all o)⟩:=by unfold cU;rw [show (fG az o.dst&&ji (b2 all o))=true from by rw [J,ad];rfl,al];rfl
 rw [key] at he ⊢;simp only [jO] at he ⊢;have vS:∀H,(fP P o).run call (dM r (b2 all o)) H=hC .bad ((s' P t).run H ((bZ x).run (dM r (b2 all o))) ((bZ y).run (dM r (b2 all o)))):=by intro H;unfold fP;rw [a8]
 rw [vS] at he;cases aM:(s' P t).run h ((bZ x).run (dM r (b2 all o))) ((bZ y).run (dM r (b2 all o))) with
 | none=>rw [aM] at he;cases he
 | some aD=>
   rw [aM] at he;simp only [hC,a7.val.injEq] at he;obtain ⟨rfl,rfl⟩:=he;unfold s' at aM;cases aE:bf P t with
   | none=>rw [aE] at aM;cases aM
   | some aO=>
     rw [aE] at aM;simp only [xd] at aM;obtain ⟨b,off,ak,bn⟩:=zf aM;obtain ⟨ao,b0⟩:=fc bn;obtain ⟨k,bY,b_⟩:=agd b0;refine ⟨b,off,k,ak,bY,fun H nm=>?_⟩;rw [vS];unfold s';rw [aE];simp only [xd,ak,V.ke,ao,am4,b_ H nm,hC]
theorem zk {listed:Array Bool} (i':∀i o,ops[i]? =some o->nE i o=true) (cy:listed.size=ops.size) (aJ:Region.ready .any ops listed=[]):∀i,i<ops.size->listed.getD i false=true:=by
 intro i
 induction i using Nat.strongRecOn with
 | _ i bA=>
   intro au;cases gN:listed.getD i false with
   | true=>rfl
   | false=>
     exfalso;have cP:ops[i]? =some ops[i]:=ani au;have i':=i' i _ cP;have:i ∈ Region.ready .any ops listed:=by
      rw [mem_ready];refine ⟨?_,ops[i],cP,fun e he aj=>?_⟩
      . have aM:i<listed.size:=by rw [cy];exact au
        rw [anq,ani aM] at gN ⊢;exact gN
      . have J:=anr.1 i' e (aoD.2 he);rw [xQ] at aj;rw [aj] at J;simp only [Bool.not_true,aoE,anF] at J;exact bA e.on J (by omega)
     rw [aJ] at this;simp at this
theorem w8 {listed:Array Bool} {i:Nat} (aly:listed.size=ops.size) (au:i ∈ Region.ready .any ops listed):i<ops.size/\¬listed.getD i false=true:=by rw [mem_ready] at au;obtain ⟨J,o,ad,_⟩:=au;refine ⟨(am1.1 ad).1,fun h=>?_⟩;rw [tI] at h;rw [anq,h] at J;simp at J
theorem KU {rd:Option Nat} {aB:Fr} (aK:e6 P) (c':ht P call) (ee:hG P call) (i':∀i o,ops[i]? =some o->nE i o=true) {i:Nat} {o:Oper} (cP:ops[i]? =some o) (aZ:o.dst=none) {r:bN} {h aa:ah} {v:V}
 (he:(cU P az ops o).run call r h=.val v aa) {Q:Exit->Act->World->Prop} {E:Env} {a:Act} {w:World} (k:fU E az r a) (s:ba aB E h w) (dV:∀aw w',E.le aw->ba aB aw aa w'->Q .normal a w')
 {listed:Array Bool} (cy:listed.size=ops.size) (du:∀j,j<ops.size->(listed.getD j false=true↔j≠i)) (fuel:Nat) (aA:1<=fuel):wpAnyIn (cb rd) 0 P .any ops Q fuel listed a w:=by
 have fa:i<ops.size:=(am1.1 cP).1;have gN:i<listed.size:=by rw [cy];exact fa
 cases fuel with
 | zero=>omega
 | succ fuel=>
   refine ⟨fun aJ=>absurd (zk i' cy aJ i fa) (fun h=>((du i fa).1 h) rfl),fun j bJ=>?_⟩;obtain ⟨BA,wG⟩:=w8 cy bJ;have ab4:j=i:=by
    rcases Nat.decEq j i with ez | he
    . exact absurd ((du j BA).2 ez) wG
    . exact he
   subst ab4;refine q7 aK c' ee cP he k.size (fun t aE=>k.af t (anx (anr.1 (k9 he).2 t aE))) s fun aw x w' ag av aI=>?_;rw [aZ];refine wpAnyIn_done ?_ (dV aw w' ag aI) fuel;cases aJ:Region.ready .any ops (listed.setIfInBounds j true) with
   | nil=>rfl
   | cons m ms=>
     exfalso;have hm:m ∈ Region.ready .any ops (listed.setIfInBounds j true):=by rw [aJ];simp
     obtain ⟨m1,m2⟩:=w8 (by simp [cy]) hm;refine m2 ((gk gN).2 ?_);by_cases QA:m=j
     . exact .inl QA
     . exact .inr ((du m m1).2 QA)
theorem akn {rd:Option Nat} {aB:Fr} (aK:e6 P) (c':ht P call) (ee:hG P call) (i':∀i o,ops[i]? =some o->nE i o=true) {i j:Nat} {o p:Oper} (cP:ops[i]? =some o) (oV:ops[j]? =some p) (rl:i≠j) (aZ:o.dst=none) (nu:p.dst=none)
 {r:bN} {h J fL ad:ah} {v cI u eV:V} (he:(cU P az ops o).run call r h=.val v J) (ak:(cU P az ops p).run call r J=.val u ad) (hN:(cU P az ops p).run call r h=.val eV fL) (e_:(cU P az ops o).run call r fL=.val cI ad)
 {Q:Exit->Act->World->Prop} {E:Env} {a:Act} {w:World} (k:fU E az r a) (s:ba aB E h w) (dV:∀aw w',E.le aw->ba aB aw ad w'->Q .normal a w')
 {listed:Array Bool} (cy:listed.size=ops.size) (du:∀m,m<ops.size->(listed.getD m false=true↔(m≠i/\m≠j))) (fuel:Nat) (aA:2<=fuel):wpAnyIn (cb rd) 0 P .any ops Q fuel listed a w:=by
 have fa:i<ops.size:=(am1.1 cP).1;have ID:j<ops.size:=(am1.1 oV).1;have lr:∀{q:Oper} {H k2:ah} {z:V},(cU P az ops q).run call r H=.val z k2->∀t ∈ b2 ops q,Rel E (T.get .bad (aC t) r) (a.tmps.getD t undef):=
  fun he t aE=>k.af t (anx (anr.1 (k9 he).2 t aE))
 cases fuel with
 | zero=>omega
 | succ fuel=>
   refine ⟨fun aJ=>absurd (zk i' cy aJ i fa) (fun h=>((du i fa).1 h).1 rfl),fun m hm=>?_⟩;obtain ⟨m1,m2⟩:=w8 cy hm;have iu:m=i\/m=j:=by
    rcases Nat.decEq m i with ez | he
    . rcases Nat.decEq m j with aco | eY
      . exact absurd ((du m m1).2 ⟨ez,aco⟩) m2
      . exact .inr eY
    . exact .inl he
   rcases iu with rfl | rfl
   . refine q7 aK c' ee cP he k.size (lr he) s fun aw x w' ag av aI=>?_;rw [aZ];have gN:m<listed.size:=by rw [cy];exact fa
     refine KU aK c' ee i' oV nu ak (k.mono ag) aI (fun aH b1 cf cd=>dV aH b1 (ag.trans cf) cd) (by simp [cy]) (fun z bG=>?_) fuel (by omega);rw [gk gN,du z bG];constructor
     . rintro (rfl | h)
       . exact rl
       . exact h.2
     . intro h;by_cases Bu:z=m
       . exact .inl Bu
       . exact .inr ⟨Bu,h⟩
   . refine q7 aK c' ee oV hN k.size (lr hN) s fun aw x w' ag av aI=>?_;rw [nu];have gN:m<listed.size:=by rw [cy];exact ID
     refine KU aK c' ee i' cP aZ e_ (k.mono ag) aI (fun aH b1 cf cd=>dV aH b1 (ag.trans cf) cd) (by simp [cy]) (fun z bG=>?_) fuel (by omega);rw [gk gN,du z bG];constructor
     . rintro (rfl | h)
       . exact fun e=>rl e.symm
       . exact h.1
     . intro h;by_cases Bu:z=m
       . exact .inl Bu
       . exact .inr ⟨h,Bu⟩
theorem UT {rd:Option Nat} {id:Nat} {a:Act} {w:World} {Q:Exit->Act->World->Prop} (hm:P.follows .mixedOrders=true)
 (h:wpAnyIn (cb rd) 0 P .any ops Q ops.size (Array.replicate ops.size false) a {w with drawn:=w.drawn+1}):(Code.region id ops true).wpIn (cb rd) 0 P Q a w:=by
 refine wpIn_region_draw fun t=>?_;rw [hm];exact wpAnyIn_sound _ _ _ _ _ h
theorem KZ {r bI:bN}:∀{rs:List Nat},(∀t ∈ rs,T.get .bad (aC t) bI=T.get .bad (aC t) r)->dM bI rs=dM r rs
 | [],_=>rfl
 | t::cZ,h=>by simp only [dM];rw [h t (by simp),KZ (rs:=cZ) fun u hu=>h u (by simp [hu])]
theorem Zz {all:Array Oper} {o:Oper} {call:et} {r bI:bN} (h:∀t ∈ b2 all o,T.get .bad (aC t) bI=T.get .bad (aC t) r) (H:ah):(cU P az all o).run call bI H=(cU P az all o).run call r H:=by
 unfold cU;cases ao:(fG az o.dst&&ji (b2 all o)) with
 | false=>rfl
 | true=>
   simp only [am4];cases al:o.guard with
   | none=>simp only [jO,KZ h]
   | some qy=>
     obtain ⟨j,want⟩:=qy;simp only;cases all[j]? with
     | none=>rfl
     | some g=>
       simp only;cases g.dst with
       | none=>rfl
       | some d=>
         simp only;cases (Nat.blt d az&&Nat.ble d top) with
         | false=>rfl
         | true=>simp only [am4,jO,KZ h]
theorem akm {rd:Option Nat} {aB:Fr} (aK:e6 P) (c':ht P call) (ee:hG P call) (i':∀i o,ops[i]? =some o->nE i o=true) {l i j:Nat} {b o p:Oper} (sw:ops[l]? =some b) (cP:ops[i]? =some o) (oV:ops[j]? =some p)
 (gN:l≠i) (Qu:l≠j) (rl:i≠j) (aZ:o.dst=none) (nu:p.dst=none) {r bT:bN} {h J fL ad:ah} {z v cI u eV:V}
 (aj:∀H,(cU P az ops b).run call r H=.val z H) (wq:bT=(gh b.dst).run r z) (yE:∀t ∈ b2 ops p,T.get .bad (aC t) bT=T.get .bad (aC t) r)
 (he:(cU P az ops o).run call bT h=.val v J) (ak:(cU P az ops p).run call bT J=.val u ad) (hN:(cU P az ops p).run call bT h=.val eV fL) (e_:(cU P az ops o).run call bT fL=.val cI ad)
 {Q:Exit->Act->World->Prop} {E:Env} {a:Act} {w:World} (k:fU E az r a) (s:ba aB E h w) (dV:∀aw bt w',E.le aw->fU aw az bT bt->ba aB aw ad w'->Q .normal bt w')
 {listed:Array Bool} (cy:listed.size=ops.size) (AV:qX ops fun k=>listed.getD k false=true) (ac5:∀c7,(fi [] ops.toList)[i]? =some c7->gx c7 l=true) (ns:∃c7,(fi [] ops.toList)[i]? =some c7)
 (du:∀m,m<ops.size->(listed.getD m false=true↔(m≠l/\m≠i/\m≠j))) (fuel:Nat) (aA:3<=fuel):wpAnyIn (cb rd) 0 P .any ops Q fuel listed a w:=by
 have Ek:l<ops.size:=(am1.1 sw).1;have fa:i<ops.size:=(am1.1 cP).1;have ID:j<ops.size:=(am1.1 oV).1;have lr:∀{E:Env} {a:Act} {q:Oper} {R:bN} {H k2:ah} {z:V},fU E az R a->(cU P az ops q).run call R H=.val z k2->∀t ∈ b2 ops q,Rel E (T.get .bad (aC t) R) (a.tmps.getD t undef):=
  fun k he t aE=>k.af t (anx (anr.1 (k9 he).2 t aE))
 have Sz:∀(L:Array Bool),(qX ops fun k=>L.getD k false=true)->¬L.getD l false=true->i ∈ Region.ready .any ops L->False:=by
  intro L abc tT yu;rw [mem_ready] at yu;obtain ⟨_,cn,ia,vX⟩:=yu;rw [cP] at ia;cases ia;obtain ⟨c7,ns⟩:=ns;have ye:qX ops fun k=>L.getD k false=true\/k=i:=by
   intro k ok e ay bC he aj;rcases ay with ay | rfl
   . exact .inl (abc k ok e ay bC he aj)
   . rw [cP] at bC;cases bC;exact .inl (vX e (aoD.1 he) (by rw [xQ];exact aj))
  rcases BZ ye ops.toList [] (fun j=>by simp) (fun k m j ay=>by simp at ay) i c7 l ns (ac5 c7 ns) (.inr rfl) with h | h
  . exact tT h
  . exact gN h
 have ZE:∀m,m ∈ Region.ready .any ops listed->qX ops fun k=>(listed.setIfInBounds m true).getD k false=true:=by
  intro m hm k ok e ay bC he aj;have oX:=hm;rw [mem_ready] at oX;obtain ⟨_,amu,QG,vX⟩:=oX;have acj:m<listed.size:=by rw [cy];exact (am1.1 QG).1
  rw [gk acj] at ay ⊢;rcases ay with rfl | ay
  . rw [QG] at bC;cases bC;exact .inr (vX e (aoD.1 he) (by rw [xQ];exact aj))
  . exact .inr (AV k ok e ay bC he aj)
 cases fuel with
 | zero=>omega
 | succ fuel=>
   refine ⟨fun aJ=>absurd (zk i' cy aJ i fa) (fun h=>((du i fa).1 h).2.1 rfl),fun m hm=>?_⟩;obtain ⟨m1,m2⟩:=w8 cy hm;have iu:m=l\/m=j:=by
    rcases Nat.decEq m l with db | an
    . rcases Nat.decEq m j with mM | aN
      . rcases Nat.decEq m i with n3 | cv
        . exact absurd ((du m m1).2 ⟨db,n3,mM⟩) m2
        . subst cv;exact (Sz listed AV (fun h=>((du l Ek).1 h).1 rfl) hm).elim
      . exact .inr aN
    . exact .inl an
   rcases iu with rfl | rfl
   . -- p first
     have mz:m<listed.size:=by rw [cy];exact Ek
     refine q7 aK c' ee sw (aj h) k.size (lr k (aj h)) s fun aw x w' ag av aI=>?_;have bY:fU aw az bT (a.put b.dst x):=by rw [wq];exact (k.mono ag).put (k9 (aj h)).1 av
     refine akn aK c' ee i' cP oV rl aZ nu he ak hN e_ bY aI (fun aH b1 cf cd=>dV aH _ b1 (ag.trans cf) (bY.mono cf) cd) (by simp [cy]) (fun y bc=>?_) fuel (by omega);rw [gk mz,du y bc];constructor
     . rintro (rfl | h)
       . exact ⟨gN,Qu⟩
       . exact h.2
     . intro h;by_cases Bs:y=m
       . exact .inl Bs
       . exact .inr ⟨Bs,h⟩
   . -- q first
     have mz:m<listed.size:=by rw [cy];exact ID
     have wh:(cU P az ops p).run call r h=.val eV fL:=by rw [<-Zz yE];exact hN
     have abd:=ZE m hm;refine q7 aK c' ee oV wh k.size (lr k wh) s fun aw x w' ag av aI=>?_;rw [nu];have wy:(listed.setIfInBounds m true).size=ops.size:=by simp [cy]
     cases fuel with
     | zero=>omega
     | succ fuel=>
       refine ⟨fun aJ=>absurd (zk i' wy aJ i fa) (fun h=>?_),fun y bc=>?_⟩
       . rcases (gk mz).1 h with e | h
         . exact rl e
         . exact ((du i fa).1 h).2.1 rfl
       obtain ⟨fe,fu⟩:=w8 wy bc;have ac':y=l:=by
        rcases Nat.decEq y l with db | an
        . rcases Nat.decEq y i with n3 | cv
          . exfalso;refine fu ((gk mz).2 ?_);by_cases Bs:y=m
            . exact .inl Bs
            . exact .inr ((du y fe).2 ⟨db,n3,Bs⟩)
          . subst cv;refine (Sz _ abd (fun h=>?_) bc).elim;rcases (gk mz).1 h with e | h
            . exact Qu e
            . exact ((du l Ek).1 h).1 rfl
        . exact an
       subst ac';have bx:=k.mono ag;refine q7 aK c' ee sw (aj fL) bx.size (lr bx (aj fL)) aI fun aH dT b1 t1 t2 t3=>?_;have bY:fU aH az bT (a.put b.dst dT):=by rw [wq];exact (bx.mono t1).put (k9 (aj h)).1 t2
       have IN:y < (listed.setIfInBounds m true).size:=by rw [wy];exact Ek
       refine KU aK c' ee i' cP aZ e_ bY t3 (fun bM jY cf cd=>dV bM _ jY (ag.trans (t1.trans cf)) (bY.mono cf) cd) (by simp [cy]) (fun g al=>?_) fuel (by omega);rw [gk IN,gk mz,du g al];constructor
       . rintro (rfl | rfl | h)
         . exact gN
         . exact fun e=>rl e.symm
         . exact h.2.1
       . intro h;by_cases an:g=y
         . exact .inl an
         . by_cases aN:g=m
           . exact .inr (.inl aN)
           . exact .inr (.inr ⟨an,h,aN⟩)
theorem Hx {rd:Option Nat} {aB:Fr} {E:Env} {h:ah} {w:World} {id:Nat} (dE:P.follows .mixedOrders=true) (aK:e6 P) (c':ht P call) (ee:hG P call) {r:bN} {a:Act}
 {Q:Exit->Act->World->Prop} (k:fU E az r a) (s:ba aB E h w) {es:List fr} {eI:bN} {bo:ah} {order aF e8:List Nat} {N M:Nat} (C:Cert P az ops (fun _=>call) es r h eI bo e8 order aF N M false)
 (dV:N=ops.size->∀aw bt w',E.le aw->fU aw az eI bt->ba aB aw bo w'->Q .normal bt w')
 (hy:∀aw bt w' x v aa,E.le aw->N<ops.size->ops.size<=M->(∃i0 iz,ops[i0]? =some iz/\posOf aF i0=N/\(cU P az ops iz).run call eI bo=.cY v aa)->fU aw az (pj r ops.toList) bt->Rel aw v x->ba aB aw aa w'->Q (.panic (qE x)) bt w')
 (eo:M<ops.size->∀(fuel:Nat) (listed:Array Bool) aw bt w',(List.range ops.size).countP (fun i=>!listed.getD i false)<=fuel->listed.size=ops.size->qX ops (fun k=>listed.getD k false=true)->(∀k,k<ops.size->(listed.getD k false=true↔posOf aF k<N))->
   E.le aw->fU aw az eI bt->ba aB aw bo w'->wpAnyIn (cb rd) 0 P .any ops Q fuel listed bt w'):
 (Code.region id ops true).wpIn (cb rd) 0 P Q a w:=by
 have d_:∀k,¬(Array.replicate ops.size false).getD k false=true:=by
  intro k;rw [tI,Array.getElem?_replicate]
  split<;>simp
 have kS:Holds aB aB es bo aF (kJ ops es bo aF (Array.replicate ops.size false) 0):=
  ⟨rfl,fun _ _=>rfl,fun k ay=>(by obtain ⟨_,_,_,_,a1⟩:=ay;omega),fun k bx ay=>(by obtain ⟨_,_,_,_,a1⟩:=ay;omega)⟩
 obtain ⟨h3,dn,g1,g2,g3,g4,g5,g6⟩:=C.advance N 0 (by omega) (fun k o _ _ _=>d_ k) aB kS (E:=E) (w:={w with drawn:=w.drawn}) (by rw [C.a1];exact s.same rfl rfl rfl rfl);have mw:∀(aw:Env) (bt:Act),E.le aw->bt.defers=a.defers->∀(bI:bN),T.get .bad fs bI=T.get .bad fs r->lO aw (T.get .bad fs bI) bt.defers:=fun aw bt he aZ bI sE=>by rw [sE,aZ];exact k.defers.mono he
 have Ed:T.get .bad fs eI=T.get .bad fs r:=by have:=C.Hy N (am6 _);have oY:es[N]? =none:=anv (by rw [C.len];exact am6 _);simpa [e2,oY] using this
 refine UT dE (O6 aK (fun _=>c') (fun _=>ee) C (iC:=E) (D:=a.defers)
  (fun aX aw bt w' ag av aI bU=>dV aX aw bt w' ag ⟨av,mw aw bt ag aI eI Ed⟩ bU)
  (fun aw bt w' x v aa ag av Fw aI bU c8 eH iR=>hy aw bt w' x v aa ag av Fw aI ⟨bU,mw aw bt ag c8 _ DJ⟩ eH iR)
  (fun g0 fuel listed aw bt w' g1 g2 g3 g4 ag av aI bU=>eo g0 fuel listed aw bt w' g1 g2 g3 g4 ag ⟨av,mw aw bt ag aI eI Ed⟩ bU) ops.size _ a _ ?_ ?_)
 . exact anM aoU (by simp)
 . refine ⟨by simp,k.size,rfl,fun bx ay=>absurd ay (d_ bx),fun bx o e ay=>absurd ay (d_ bx),E,h3,dn,Env.le.refl E,g1,g3,fun bx o J ad=>⟨fun h=>absurd h (d_ bx),fun h=>by have:=g4 bx o J ad (aoL _);omega⟩,
    fun bx o _ _ h=>absurd h (d_ bx),g5,?_,fun t aE=>.inr ⟨fun bx o ay=>absurd ay (d_ bx),k.af t aE⟩⟩
   exact g6.same rfl rfl rfl rfl
theorem S8 {n:Nat} {order aF:List Nat} (ib:mO n order aF=true):order.length=n/\(∀k,k<n->posOf aF k<n/\order[posOf aF k]? =some k)/\∀p,p<n->∃i,i<n/\posOf aF i=p:=by
 unfold mO at ib;simp only [amX,anA] at ib;obtain ⟨n5,yx,Be,Bf⟩:=ib;refine ⟨n5,fun k ay=>?_,fun p ak=>?_⟩
 . have al:aF[k]? =some (posOf aF k):=by
    unfold posOf;rw [amY (by omega)];rfl
   have:=uJ Be al;rw [anB] at this;exact ⟨by have:=(anl.1 this).1;omega,this⟩
 . have al:order[p]? =some (order[p]'(by omega)):=amY (by omega);have:=uJ Bf al;rw [anB] at this;refine ⟨order[p]'(by omega),by have:=(anl.1 this).1;omega,?_⟩;unfold posOf;rw [this];rfl
theorem akk {order aF:List Nat} (aA:Cy P ops order aF=true):3<=ops.size/\∀i o,ops[i]? =some o->∃c7,(fi [] ops.toList)[i]? =some c7/\nE i o=true/\
 (posOf aF i<ops.size-3->∀k ok,ops[k]? =some ok->posOf aF k<ops.size-3->∃mk,(fi [] ops.toList)[k]? =some mk/\pI i c7 (b2 ops o) o.dst k mk ok (Nat.blt (posOf aF k) (posOf aF i))=true/\(ft P o.op=true->eR P ok=true->posOf aF k<posOf aF i->gx c7 k=true))/\
 (¬posOf aF i<ops.size-3->F6 P ops order aF (ops.size-3) i c7 o=true):=by
 unfold Cy at aA;simp only [amX,ann] at aA;refine ⟨aA.1,fun i o au=>?_⟩;obtain ⟨c7,J,ad⟩:=qU aA.2 i o (by simpa using au);simp only [anB,amX] at ad;refine ⟨c7,J,ad.1,fun aL k ok ay qi=>?_,fun ks=>?_⟩
 . have aD:=ad.2;rw [show Nat.blt (posOf aF i) (ops.size-3)=true from by rw [anF];exact aL] at aD;simp only [am4] at aD;obtain ⟨mk,bY,b_⟩:=qU aD k ok (by simpa using ay);simp only [anB] at b_;rw [show Nat.blt (posOf aF k) (ops.size-3)=true from by rw [anF];exact qi] at b_;simp only [am4,amX] at b_;refine ⟨mk,bY,b_.1,fun an aN aL=>?_⟩;have ej:=b_.2;rw [an,aN,an2,show Nat.blt (posOf aF k) (posOf aF i)=true from by rw [anF];exact aL] at ej;exact ej
 . have aD:=ad.2;rw [show Nat.blt (posOf aF i) (ops.size-3)=false from by rw [<-Bool.not_eq_true,anF];exact ks] at aD;exact aD
theorem akl {order aF:List Nat} {N i c7 p:Nat} {o Fp:Oper} (ak:order[N]? =some p) (mC:ops[p]? =some Fp) (h:F6 P ops order aF N i c7 o=true):
 (∀k,k<ops.size->posOf aF k<N->gx c7 k=true)/\(posOf aF i=N->ft P o.op=false/\looks o.op=false)/\(posOf aF i≠N->∃x,s_ o=some x)/\
 (posOf aF i=N+1->gx c7 p=true)/\(posOf aF i=N+2->∀t ∈ b2 ops o,Fp.dst≠some t):=by
 unfold F6 at h;rw [ak] at h;simp only [amX] at h;obtain ⟨⟨J,ad⟩,aD,bn⟩:=h;refine ⟨fun k ay IH=>?_,fun e=>?_,fun e=>?_,fun e=>?_,fun e t aE=>?_⟩
 . obtain ⟨mk,bY,b_⟩:=qU J k ops[k] (by simp);simp only [anB] at b_;rw [show Nat.blt (posOf aF k) N=true from by rw [anF];exact IH] at b_;exact b_
 . rw [h7,anb e] at ad;simpa using ad
 . rw [h7,am7 e] at ad;exact Option.isSome_iff_exists.1 ad
 . rw [h7,anb e] at aD;exact aD
 . rw [h7,anb e,mC] at bn;simp only at bn;intro aZ;rw [aZ] at bn;simp only [an1] at bn;rw [show (b2 ops o).contains t=true from by simpa using aE] at bn;cases bn
theorem Ir {es:List fr} {bo:ah} {N p:Nat} (ak:p<=N):cr (es.take N) (cr es bo N) p=cr es bo p:=by
 by_cases h:p<N
 . cases he:es[p]? with
   | some e=>simp [cr,h,he]
   | none=>
     have aX:es[N]? =none:=anv (by have:=List.getElem?_eq_none_iff.1 he;omega);simp [cr,h,he,aX]
 . have:p=N:=by omega
   subst this;simp [cr,List.getElem?_take]
theorem TH {es:List fr} {eI:bN} {N p:Nat} (ak:p<=N):e2 (es.take N) (e2 es eI N) p=e2 es eI p:=by
 by_cases h:p<N
 . cases he:es[p]? with
   | some e=>simp [e2,h,he]
   | none=>
     have aX:es[N]? =none:=anv (by have:=List.getElem?_eq_none_iff.1 he;omega);simp [e2,h,he,aX]
 . have:p=N:=by omega
   subst this;simp [e2,List.getElem?_take]
theorem VY {order:List Nat} {es:List fr} {N i j:Nat} {o p:Oper} {e f:fr} {x y:Operand} (bF:De ops order es N=true) (au:order[N]? =some i) (bJ:order[N+1]? =some j) (cP:ops[i]? =some o) (oV:ops[j]? =some p)
 (he:es[N]? =some e) (aA:es[N+1]? =some f) (ar:s_ o=some x) (bc:s_ p=some y) {b c:aU} {off nD:Nat} (aj:(bZ x).run (dM e.r (b2 ops o))=.ptr b off) (ao:(bZ y).run (dM f.r (b2 ops p))=.ptr c nD):b≠c:=by
 unfold De KT at bF;simp only [au,bJ,cP,oV,he,aA,ar,bc,aj,ao] at bF;intro h;subst h;rw [aU.AJ] at bF;cases bF
theorem ZG {rd:Option Nat} {aB:Fr} {E:Env} {h:ah} {w:World} {id:Nat} (dE:P.follows .mixedOrders=true) (aK:e6 P) (c':ht P call) (ee:hG P call) {r:bN} {a:Act} {order aF:List Nat} (ib:mO ops.size order aF=true) (hW:Cy P ops order aF=true)
 {Q:Exit->Act->World->Prop} (ak:oI aB E az (Q .normal) Q (Hw ops order (f' P az ops (hZ ops order)) (sc P az ops (fi [] ops.toList) aF (ig P aF 0 ops.toList) 0 ops.toList) call r h)) (k:fU E az r a) (s:ba aB E h w):(Code.region id ops true).wpIn (cb rd) 0 P Q a w:=by
 obtain ⟨n5,iQ,mc⟩:=S8 ib;obtain ⟨ad,hW⟩:=akk hW;unfold Hw at ak;cases c2:(f' P az ops (hZ ops order)).run call r h with
 | fail=>rw [c2] at ak;exact ak.elim
 | cY _ _ _ _ _=>rw [c2] at ak;exact ak.elim
 | ok es eI bo=>
   rw [c2] at ak;simp only at ak;obtain ⟨N,abl⟩:∃N,N=ops.size-3:=⟨_,rfl⟩;rw [<-abl] at ak hW;cases aq:(De ops order es (N+1)&&(sc P az ops (fi [] ops.toList) aF (ig P aF 0 ops.toList) 0 ops.toList).run call (es.take N) (cr es bo N)) with
   | false=>rw [aq] at ak;exact ak.elim
   | true=>
     rw [aq] at ak;simp only [am4] at ak;simp only [amX] at aq;obtain ⟨D_,AW⟩:=aq;obtain ⟨ag,av,aI,bU⟩:=uT c2;have hlen:es.length=ops.size:=by rw [ag,qD,n5]
     have inj:∀i j,i<ops.size->j<ops.size->posOf aF i=posOf aF j->i=j:=by intro i j au bJ he;have a:=(iQ i au).2;have b:=(iQ j bJ).2;rw [he,b] at a;cases a;rfl
     obtain ⟨ny,tL,yf⟩:=mc N (by omega);obtain ⟨pw,yc,yd⟩:=mc (N+1) (by omega);obtain ⟨rF,vL,AT⟩:=mc (N+2) (by omega);have A9:ops[ny]? =some ops[ny]:=ani tL;have Ef:ops[pw]? =some ops[pw]:=ani yc;have Eg:ops[rF]? =some ops[rF]:=ani vL;have I2:=(iQ ny tL).2;have I0:=(iQ pw yc).2;have I1:=(iQ rF vL).2;rw [yf] at I2;rw [yd] at I0;rw [AT] at I1;have yH:∀i o,ops[i]? =some o->¬posOf aF i<N->∃c7,(fi [] ops.toList)[i]? =some c7/\(∀k,k<ops.size->posOf aF k<N->gx c7 k=true)/\(posOf aF i=N->ft P o.op=false/\looks o.op=false)/\(posOf aF i≠N->∃x,s_ o=some x)/\
      (posOf aF i=N+1->gx c7 ny=true)/\(posOf aF i=N+2->∀t ∈ b2 ops o,ops[ny].dst≠some t):=by
      intro i o au ks;obtain ⟨c7,c9,_,_,z4⟩:=hW i o au;exact ⟨c7,c9,akl I2 A9 (z4 ks)⟩
     obtain ⟨ami,_,_,aki,_⟩:=yH ny _ A9 (by omega);obtain ⟨ag1,Qy,_,_,akg,ab,_⟩:=yH pw _ Ef (by omega);obtain ⟨amh,al5,_,_,akh,_,Kv⟩:=yH rF _ Eg (by omega);obtain ⟨O_,agV⟩:=aki yf;obtain ⟨amO,Ji⟩:=akg (by omega);obtain ⟨amP,Jj⟩:=akh (by omega);have ab:=ab yd;have Kv:=Kv AT;obtain ⟨Hz,gC,jB,BL⟩:=bU _ _ (ou I2 A9);obtain ⟨vz,bR,a2,a3⟩:=bU _ _ (ou I0 Ef);obtain ⟨O',b8,cF,k6⟩:=bU _ _ (ou I1 Eg);obtain ⟨amH,amT,ahI,OI,alL⟩:=KS Ji;obtain ⟨amI,amU,amq,OJ,alM⟩:=KS Jj;have d_:es[N+2+1]? =none:=anv (by omega);have ab_:cr es bo (N+2+1)=bo:=by simp [cr,d_]
     have ajk:e2 es eI (N+2+1)=eI:=by simp [e2,d_]
     have abk:cr es bo N=Hz.h:=by simp [cr,gC]
     have aiS:e2 es eI N=Hz.r:=by simp [e2,gC]
     have abi:cr es bo (N+1)=vz.h:=by simp [cr,bR]
     have aiQ:e2 es eI (N+1)=vz.r:=by simp [e2,bR]
     have abj:cr es bo (N+1+1)=O'.h:=by simp [cr,b8]
     have aiR:e2 es eI (N+1+1)=O'.r:=by simp [e2,b8]
     rw [aiQ] at BL;rw [abi] at jB;rw [OI,aiR] at a3;rw [OJ,ajk] at k6;simp only [gh] at a3 k6;rw [abj] at a2;rw [ab_] at cF;obtain ⟨abh,H8⟩:=vx O_ jB;have H8:=H8 agV;obtain ⟨L4,amr,adR,ain,T3,akP⟩:=O3 Ji a2;obtain ⟨G',ams,Rs,aio,ajI,akQ⟩:=O3 Jj cF;have ez:L4≠G':=VY D_ I0 I1 Ef Eg bR b8 Ji Jj ain aio;have H7:=akQ vz.h (by rw [T3,ah.fm,am7 ez]);have AS:=akP (vz.h.set G' Rs) (by rw [ah.fm,am7 (fun e=>ez e.symm)]);have abC:(vz.h.set G' Rs).set L4 adR=bo:=by rw [ah.set_comm _ (fun e=>ez e.symm),<-T3,<-ajI]
     rw [abC] at AS;rw [a3] at H7 cF;have sG:eI=vz.r:=k6.trans a3;have ack:∀m,m<ops.size->(posOf aF m<N↔(m≠ny/\m≠pw/\m≠rF)):=by
      intro m hm;have al':=(iQ m hm).1;constructor
      . intro h;exact ⟨fun e=>by subst e;omega,fun e=>by subst e;omega,fun e=>by subst e;omega⟩
      . rintro ⟨cW,db,mM⟩;have tB:posOf aF m≠N:=fun e=>cW (inj m ny hm tL (by rw [e,yf]));have bW:posOf aF m≠N+1:=fun e=>db (inj m pw hm yc (by rw [e,yd]));have cw:posOf aF m≠N+2:=fun e=>mM (inj m rF hm vL (by rw [e,AT]));omega
     have abB:eR P ops[pw]=true:=by unfold eR hl;rw [ahI];rfl
     have yE:∀t ∈ b2 ops ops[rF],T.get .bad (aC t) vz.r=T.get .bad (aC t) Hz.r:=by intro t aE;have rB:t<=top:=anx (anr.1 (k9 cF).2 t aE);rw [BL,PQ (k9 jB).1 rB,am7 (Kv t aE)]
     have iw:∀i o,ops[i]? =some o->posOf aF i<N->∃e,(es.take N)[posOf aF i]? =some e/\(cU P az ops o).run call e.r e.h=.val e.v (cr (es.take N) (cr es bo N) (posOf aF i+1))/\e2 (es.take N) (e2 es eI N) (posOf aF i+1)=(gh o.dst).run e.r e.v:=by
      intro i o a8 au;obtain ⟨e,c9,z2,z3⟩:=bU _ o (ou (iQ i (am1.1 a8).1).2 a8);refine ⟨e,by simp [au,c9],?_,?_⟩
      . rw [Ir (by omega)];exact z2
      . rw [TH (by omega)];exact z3
     have C:Cert P az ops (fun _=>call) (es.take N) r h (e2 es eI N) (cr es bo N) (N::ig P aF 0 ops.toList) order aF N N false:=
      ⟨by simp [hlen];omega,by omega,am6 _,iQ,mc,by rw [Ir (aoL _)];exact av,by rw [TH (aoL _)];exact aI,iw,
        fun i o a8=>by
         obtain ⟨c7,c9,z2,z3,_⟩:=hW i o a8
         exact ⟨c7,c9,z2,fun au k ok ay IG=>by
          obtain ⟨mk,fe,fu,y3⟩:=z3 au k ok ay IG
          exact ⟨mk,fe,fu,fun a b c=>.inl (y3 a b c)⟩⟩,
        by simp,
        fun j o J ad=>anJ _ (by simpa using y0 (aF:=aF) (i:=0) (j:=j) (l:=ops.toList) (by simpa using J) ad),
        fun s aM=>by
         rcases ans.1 aM with rfl | aM
         . exact .inl (.inr ⟨rfl,rfl⟩)
         . rcases uu aM with h | ⟨j,o,J,ad,aD⟩
           . exact .inl (.inl (by simpa using h))
           . exact .inr ⟨j,o,by simpa using J,ad,by simpa using aD⟩,
        fun j o J ad aD bn=>by
         obtain ⟨e,g1,_⟩:=iw j o J bn;have QW:=G2 AW j o (by simpa using J) ad aD e (by simpa using g1);refine ⟨e,g1,fun s aM hm=>?_⟩;rcases ans.1 aM with rfl | aM
         . have n1:sW P (fi [] ops.toList) ops.toList aF j (((fi [] ops.toList)[j]?).getD 0) (s+1)=true:=by
            unfold sW at hm ⊢;refine Le (by rw [JW];simp) fun dy mk ok fe fu=>?_;obtain ⟨mk',bk,dT⟩:=qU hm dy ok fu;rw [fe] at bk;cases bk;simp only [anB] at dT ⊢;have bC:ops[dy]? =some ok:=by simpa using fu
            have qi:=(am1.1 bC).1;by_cases ys:posOf aF dy=s
            . have:dy=ny:=inj dy ny qi tL (by rw [ys,yf]);subst this;rw [A9] at bC;cases bC;have acn:eR P ops[dy]=false:=by unfold eR;rw [O_];rfl
              rw [acn];rfl
            . have:Nat.blt (posOf aF dy) (s+1)=Nat.blt (posOf aF dy) s:=by
               rw [anT,anF,anF];omega
              rw [this];exact dT
           have yu:s+1 ∈ ig P aF 0 ops.toList:=by rw [<-yd];simpa using y0 (P:=P) (aF:=aF) (i:=0) (j:=pw) (l:=ops.toList) (by simp) abB
           obtain ⟨aa,g3⟩:=QW (s+1) yu (by simpa using n1);refine ⟨call,aa,⟨c',ee⟩,?_⟩;have an:cr (es.take s) (cr es bo s) (s+1)=cr es bo s:=by have:(es.take s)[s+1]? =none:=anv (by simp;omega);simp only [cr,this]
           have aN:cr (es.take s) (cr es bo s) s=cr es bo s:=Ir (am6 _);rw [an] at g3;rw [aN];exact g3
         . obtain ⟨aa,g3⟩:=QW s aM (by simpa using hm);exact ⟨call,aa,⟨c',ee⟩,g3⟩,
        fun _=>⟨rfl,fun dy ok mk ay ks IQ j bJ A'=>by obtain ⟨c7,c9,z2,_⟩:=yH dy ok ay (by omega);rw [IQ] at c9;cases c9;exact z2 j bJ A'⟩,
        fun J ad=>by omega⟩
     refine Hx dE aK c' ee k s C (fun h=>by omega) (fun _ _ _ _ _ _ _ _ h=>by omega) (fun _ fuel listed aw bt w' g1 g2 g3 g4 g5 g6 g7=>?_);rw [aiS] at g6;rw [abk] at g7;rw [abh] at a2 H7 AS;refine akm aK c' ee (fun i o a8=>by obtain ⟨c7,_,z2,_⟩:=hW i o a8;exact z2) A9 Ef Eg (fun e=>by rw [e] at yf;omega) (fun e=>by rw [e] at yf;omega) (fun e=>by rw [e] at yd;omega) OI OJ
      H8 BL yE a2 cF H7 AS g6 g7 (fun aH a2 b1 cf cd eU=>ak aH a2 b1 (g5.trans cf) (by rw [sG];exact cd) eU) g2 g3 (fun c7 ns=>by rw [Qy] at ns;cases ns;exact ab) ⟨ag1,Qy⟩ (fun m hm=>(g4 m hm).trans (ack m hm)) fuel ?_
     have Hp:∀(L:Array Bool) (x:Nat),L.size=ops.size->x<ops.size->¬L.getD x false=true->(List.range ops.size).countP (fun k=>!(L.setIfInBounds x true).getD k false) < (List.range ops.size).countP (fun k=>!L.getD k false):=by
      intro L x cG ar aX;have yM:x<L.size:=by rw [cG];exact ar
      refine Dy (fun k=>!L.getD k false) (fun k=>!(L.setIfInBounds x true).getD k false) (List.range ops.size) (fun k _ ay=>?_) ⟨x,aoy.2 ar,?_,?_⟩
      . simp only [an1] at ay ⊢;cases aq:L.getD k false with
        | false=>rfl
        | true=>
          have:=(gk (k:=k) yM).2 (.inr aq);rw [ay] at this;cases this
      . cases aq:L.getD x false with
        | false=>rfl
        | true=>exact absurd aq aX
      . have:=(gk (k:=x) yM).2 (.inl rfl);simp [this]
     have ahj:¬listed.getD ny false=true:=fun h=>by have:=(g4 ny tL).1 h;omega
     have ahh:¬listed.getD pw false=true:=fun h=>by have:=(g4 pw yc).1 h;omega
     have ahi:¬listed.getD rF false=true:=fun h=>by have:=(g4 rF vL).1 h;omega
     have bW:=Hp listed ny g2 tL ahj
     have cw:=Hp (listed.setIfInBounds ny true) pw (by simp [g2]) yc (fun h=>by
      rcases (gk (by rw [g2];exact tL)).1 h with e | h
      . rw [e] at yd;omega
      . exact ahh h)
     have c3:=Hp ((listed.setIfInBounds ny true).setIfInBounds pw true) rF (by simp [g2]) vL (fun h=>by
      rcases (gk (by simp [g2];exact yc)).1 h with e | h
      . rw [e] at AT;omega
      . rcases (gk (by rw [g2];exact tL)).1 h with e | h
        . rw [e] at AT;omega
        . exact ahi h)
     omega
end
section
variable {P:Program} {az:Nat} {ops:Array Oper} {call:et}
inductive pV {α β:Type} (R:α->β->Prop):List α->List β->Prop
 | nil:pV R [] []
 | cons {a:α} {b:β} {JP:List α} {JQ:List β} (h:R a b) (t:pV R JP JQ):pV R (a::JP) (b::JQ)
def w7 (ops:Array Oper) (t:Nat) (listed:Array Bool):Option Nat:=(Region.ready .any ops listed)[t % (Region.ready .any ops listed).length]?
theorem go_succ (fuel t:Nat) (listed:Array Bool):Region.linearise.go .any ops (fuel+1) t listed []=match w7 ops t listed with
 | some i=>i::Region.linearise.go .any ops fuel (t / (Region.ready .any ops listed).length) (listed.setIfInBounds i true) []
 | none=>[]:=by
 simp only [Region.linearise.go]
 change (match (Region.ready .any ops listed)[t % (Region.ready .any ops listed).length]? with
  | some i=>Region.linearise.go .any ops fuel (t / (Region.ready .any ops listed).length) (listed.setIfInBounds i true) [i]
  | none=>[].reverse)=_
 unfold w7;cases (Region.ready .any ops listed)[t % (Region.ready .any ops listed).length]? with
 | none=>rfl
 | some i=>
   simp only;rw [linearise_go_acc,List.reverse_singleton,List.singleton_append]
theorem TD {t:Nat} {listed:Array Bool} (h:w7 ops t listed=none):Region.ready .any ops listed=[]:=by
 unfold w7 at h;cases aJ:Region.ready .any ops listed with
 | nil=>rfl
 | cons x xs=>
   rw [aJ] at h;have aL:t % (x::xs).length < (x::xs).length:=Nat.mod_lt _ (by simp);rw [amY aL] at h;cases h
theorem Ky {t i:Nat} {listed:Array Bool} (h:w7 ops t listed=some i):i ∈ Region.ready .any ops listed:=anE h
theorem count_set {listed:Array Bool} {i:Nat} (cy:listed.size=ops.size) (au:i<ops.size) (aX:¬listed.getD i false=true):
 (List.range ops.size).countP (fun k=>!(listed.setIfInBounds i true).getD k false) < (List.range ops.size).countP (fun k=>!listed.getD k false):=by
 have ax:i<listed.size:=by rw [cy];exact au
 refine Dy (fun k=>!listed.getD k false) (fun k=>!(listed.setIfInBounds i true).getD k false) (List.range ops.size) (fun k _ ay=>?_) ⟨i,aoy.2 au,?_,?_⟩
 . simp only [an1] at ay ⊢;cases aq:listed.getD k false with
   | false=>rfl
   | true=>
     have:=(gk (k:=k) ax).2 (.inr aq);rw [ay] at this;cases this
 . cases aq:listed.getD i false with
   | false=>rfl
   | true=>exact absurd aq aX
 . have:=(gk (k:=i) ax).2 (.inl rfl);simp [this]
theorem PR (i':∀i o,ops[i]? =some o->nE i o=true):∀(fuel t:Nat) (listed:Array Bool),listed.size=ops.size->(List.range ops.size).countP (fun i=>!listed.getD i false)<=fuel->
 (Region.linearise.go .any ops fuel t listed []).Nodup/\(∀k ∈ Region.linearise.go .any ops fuel t listed [],k<ops.size/\¬listed.getD k false=true)/\
  ∀k,k<ops.size->listed.getD k false=true\/k ∈ Region.linearise.go .any ops fuel t listed []
 | 0,t,listed,cy,ao=>by
   have e:Region.linearise.go .any ops 0 t listed []=[]:=rfl;rw [e];refine ⟨List.nodup_nil,fun k ay=>by simp at ay,fun k ay=>.inl ?_⟩;have a1:(List.range ops.size).countP (fun i=>!listed.getD i false)=0:=by omega
   rw [List.countP_eq_zero] at a1;simpa using a1 k (aoy.2 ay)
 | fuel+1,t,listed,cy,ao=>by
   rw [go_succ];cases aJ:w7 ops t listed with
   | none=>
     simp only;exact ⟨List.nodup_nil,fun k ay=>by simp at ay,fun k ay=>.inl (zk i' cy (TD aJ) k ay)⟩
   | some i=>
     simp only;obtain ⟨i1,i2⟩:=w8 cy (Ky aJ);have ax:i<listed.size:=by rw [cy];exact i1
     have:=count_set cy i1 i2;obtain ⟨g1,g2,g3⟩:=PR i' fuel (t / (Region.ready .any ops listed).length) (listed.setIfInBounds i true) (by simp [cy]) (by omega);refine ⟨ao5.2 ⟨fun hm=>(g2 i hm).2 ((gk ax).2 (.inl rfl)),g1⟩,fun k ay=>?_,fun k ay=>?_⟩
     . rcases ans.1 ay with rfl | ay
       . exact ⟨i1,i2⟩
       . exact ⟨(g2 k ay).1,fun h=>(g2 k ay).2 ((gk ax).2 (.inr h))⟩
     . rcases g3 k ay with h | h
       . rcases (gk ax).1 h with rfl | h
         . exact .inr (by simp)
         . exact .inl h
       . exact .inr (by simp [h])
theorem F2 {o:Oper} {os:List Oper} {r:bN} {h:ah} {es:List fr} {dk:bN} {aA:ah} (he:(f' P az ops (o::os)).run call r h=.ok es dk aA):
 ∃v J h9,(cU P az ops o).run call r h=.val v J/\(f' P az ops os).run call ((gh o.dst).run r v) J=.ok h9 dk aA/\es=⟨r,h,v⟩::h9:=by
 simp only [f',Cx] at he;cases J:(cU P az ops o).run call r h with
 | fail=>rw [J] at he;cases he
 | cY _ _=>rw [J] at he;simp only at he;cases hm:mL o.op<;>rw [hm] at he<;>cases he
 | val v bo=>
   rw [J] at he;simp only at he;cases ad:(f' P az ops os).run call ((gh o.dst).run r v) bo with
   | fail=>rw [ad] at he;cases he
   | cY _ _ _ _ _=>rw [ad] at he;cases he
   | ok h9 bT aD=>
     rw [ad] at he;simp only [qW.ok.injEq] at he;obtain ⟨rfl,rfl,rfl⟩:=he;exact ⟨v,bo,h9,rfl,ad,rfl⟩
theorem F3 {o:Oper} {os:List Oper} {r:bN} {h J:ah} {v:V} {h9:List fr} {dk:bN} {aA:ah} (a1:(cU P az ops o).run call r h=.val v J) (ad:(f' P az ops os).run call ((gh o.dst).run r v) J=.ok h9 dk aA):
 (f' P az ops (o::os)).run call r h=.ok (⟨r,h,v⟩::h9) dk aA:=by
 simp only [f',Cx,a1,ad]
theorem KQ:∀(gC jB:List Oper) {r:bN} {h:ah} {es:List fr} {dk:bN} {aA:ah},(f' P az ops (gC++jB)).run call r h=.ok es dk aA->
 ∃h9 bT J q',(f' P az ops gC).run call r h=.ok h9 bT J/\(f' P az ops jB).run call bT J=.ok q' dk aA/\es=h9++q'
 | [],jB,r,h,es,dk,aA,he=>⟨[],r,h,es,rfl,he,rfl⟩
 | o::os,jB,r,h,es,dk,aA,he=>by obtain ⟨v,J,h9,ag,av,rfl⟩:=F2 he;obtain ⟨HH,bT,aD,q',g1,g2,rfl⟩:=KQ os jB av;exact ⟨⟨r,h,v⟩::HH,bT,aD,q',F3 ag g1,g2,rfl⟩
theorem KR:∀(gC jB:List Oper) {r bT dk:bN} {h J aA:ah} {h9 q':List fr},(f' P az ops gC).run call r h=.ok h9 bT J->(f' P az ops jB).run call bT J=.ok q' dk aA->
 (f' P az ops (gC++jB)).run call r h=.ok (h9++q') dk aA
 | [],jB,r,bT,dk,h,J,aA,h9,q',he,ad=>by simp only [f',qW.ok.injEq] at he;obtain ⟨rfl,rfl,rfl⟩:=he;exact ad
 | o::os,jB,r,bT,dk,h,J,aA,h9,q',he,ad=>by obtain ⟨v,aD,HH,ag,av,rfl⟩:=F2 he;exact F3 ag (KR os jB av ad)
theorem Cb:∀(a b:List Nat),hZ ops (a++b)=hZ ops a++hZ ops b
 | [],b=>rfl
 | x::xs,b=>by simp [hZ,Cb xs b]
theorem Tu:∀(l:List Oper),(∀o ∈ l,ft P o.op=false/\looks o.op=false)->∀{r dk:bN} {h aA:ah} {es:List fr},(f' P az ops l).run call r h=.ok es dk aA->
 aA=h/\∀H:ah,∃q9,(f' P az ops l).run call r H=.ok q9 dk H
 | [],_,r,dk,h,aA,es,he=>by simp only [f',qW.ok.injEq] at he;obtain ⟨rfl,rfl,rfl⟩:=he;exact ⟨rfl,fun H=>⟨[],rfl⟩⟩
 | o::os,aq,r,dk,h,aA,es,he=>by obtain ⟨v,J,h9,ag,av,rfl⟩:=F2 he;obtain ⟨an,aN⟩:=aq o (by simp);obtain ⟨d1,d2⟩:=vx an ag;subst d1;obtain ⟨g1,g2⟩:=Tu os (fun cn ia=>aq cn (by simp [ia])) av;refine ⟨g1,fun H=>?_⟩;obtain ⟨q9,g3⟩:=g2 H;exact ⟨_,F3 (d2 aN H) g3⟩
theorem Bw {o:Oper} {A:xq} (h:mF o=some A):o.op=.insert A.t A.m A.k A.x/\o.dst=none/\o.guard=none:=by
 unfold mF at h
 split at h
 case h_2=>cases h
 rename_i t m k x a8
 split at h
 case h_2=>cases h
 rename_i aZ
 split at h
 case h_2=>cases h
 rename_i al;cases h;exact ⟨a8,aZ,al⟩
theorem Tq {e:ec} {k v:V} {c:Nat}:∀{es:List cK},(∀m ∈ es,e.run k m.k=some false)->oy e k v c es=some (es++[⟨k,v,c⟩],true)
 | [],_=>rfl
 | m::ms,h=>by simp only [oy,h m (by simp),anf,Tq (es:=ms) fun dA n1=>h dA (by simp [n1]),ang]
theorem ZA {o:Oper} {A:xq} (yr:BH P A.t=true) (dK:mF o=some A) {r:bN} {H1 c6:ah} {v:V} (he:(cU P az ops o).run call r H1=.val v c6) {b:aU} (aj:(bZ A.m).run (dM r (b2 ops o))=.map b):
 ∀(H:ah) es c,H.get b=.mp es c->(∀m ∈ es,(ui P A.t).run ((bZ A.k).run (dM r (b2 ops o))) m.k=some false)->
  (cU P az ops o).run call r H=.val .bad (H.set b (.mp (es++[⟨(bZ A.k).run (dM r (b2 ops o)),(bZ A.x).run (dM r (b2 ops o)),c⟩]) (c+1))):=by
 obtain ⟨a8,aZ,al⟩:=Bw dK;obtain ⟨J,ad⟩:=k9 he;have key:cU P az ops o=⟨jO none (fP P o) (b2 ops o)⟩:=by unfold cU;rw [show (fG az o.dst&&ji (b2 ops o))=true from by rw [J,ad];rfl,al];rfl
 rw [key] at he ⊢;simp only [jO] at he ⊢;have vS:∀H,(fP P o).run call (dM r (b2 ops o)) H=hC .bad ((pR P A.t).run H (.map b) ((bZ A.k).run (dM r (b2 ops o))) ((bZ A.x).run (dM r (b2 ops o)))):=by intro H;unfold fP;rw [a8];simp only [aj]
 rw [vS] at he;have ac2:pR P A.t=⟨pS (ui P A.t)⟩:=by
  cases aM:(pR P A.t).run H1 (.map b) ((bZ A.k).run (dM r (b2 ops o))) ((bZ A.x).run (dM r (b2 ops o))) with
  | none=>rw [aM] at he;cases he
  | some aD=>
    unfold pR at aM ⊢;unfold ui;cases aE:bf P A.t with
    | none=>rw [aE] at aM;cases aM
    | some aO=>
      rw [aE] at aM;simp only at aM ⊢;cases b3:aO.bl<;>rw [b3] at aM<;>simp only at aM ⊢<;>try (cases aM;done)
      rename_i dz k';cases qj:bf P dz with
      | none=>rw [qj] at aM;cases aM
      | some g'=>
        rw [qj] at aM;simp only at aM ⊢;cases aA:lu g'.bl with
        | false=>
          unfold BH at yr;rw [aE] at yr;simp only [b3,qj,aA] at yr;cases yr
        | true=>rfl
 intro H es c nm ay;rw [vS,ac2];simp only [pS,nm,cm.lD,Tq ay,hC,am4]
theorem adx {o:Oper} {r:bN} {b:aU} {m:cK} (h:ud ops r b o=some m):∃A,mF o=some A/\(bZ A.m).run (dM r (b2 ops o))=.map b/\m.k=(bZ A.k).run (dM r (b2 ops o))/\m.v=(bZ A.x).run (dM r (b2 ops o)):=by
 unfold ud at h;cases bF:mF o with
 | none=>rw [bF] at h;cases h
 | some A=>
   rw [bF] at h;simp only at h;cases hm:(bZ A.m).run (dM r (b2 ops o))<;>rw [hm] at h<;>simp only at h<;>try (cases h;done)
   obtain ⟨ao,J⟩:=fc h;have:=aU.ni ao;subst this;cases J;exact ⟨A,rfl,hm,rfl,rfl⟩
def lP (ops:Array Oper) (r:bN) (b:aU) (i:Nat) (m:cK):Prop:=∃o,ops[i]? =some o/\ud ops r b o=some m
theorem lP.Ht {r:bN} {b:aU} {i:Nat} {m dA:cK} (h:lP ops r b i m) (aa:lP ops r b i dA):m=dA:=by obtain ⟨o,J,ad⟩:=h;obtain ⟨cn,aD,bn⟩:=aa;rw [J] at aD;cases aD;rw [ad] at bn;cases bn;rfl
theorem Ey {r:bN} {b:aU}:∀{is:List Nat} {ms:List cK},wF ops r b is=some ms->pV (lP ops r b) is ms
 | [],ms,h=>by simp only [wF,amW] at h;subst h;exact .nil
 | i::is,ms,h=>by
   simp only [wF] at h;cases a8:ops[i]? with
   | none=>rw [a8] at h;cases h
   | some o=>
     rw [a8] at h;simp only at h;cases hm:ud ops r b o with
     | none=>rw [hm] at h;cases h
     | some m=>
       rw [hm] at h;simp only at h;cases aM:wF ops r b is with
       | none=>rw [aM] at h;cases h
       | some aml=>
         rw [aM] at h;simp only [amW] at h;subst h;exact .cons ⟨o,a8,hm⟩ (Ey aM)
theorem Rn {x:Option Bool} (h:isFalse x=true):x=some false:=by
 cases x with
 | none=>cases h
 | some b=>cases b<;>simp_all [isFalse]
theorem GS {e:ec} {m:cK}:∀{ms:List cK},Df e m ms=true->∀dA ∈ ms,e.run m.k dA.k=some false/\e.run dA.k m.k=some false
 | [],_,dA,h=>by simp at h
 | x::xs,h,dA,hm=>by
   simp only [Df,amX] at h;rcases ans.1 hm with rfl | hm
   . exact ⟨Rn h.1,Rn h.2.1⟩
   . exact GS h.2.2 dA hm
theorem LL {r:bN} {b:aU} {e:ec}:∀{is:List Nat} {ms:List cK},pV (lP ops r b) is ms->is.Nodup->Ah e ms=true->∀i j m dA,i ∈ is->j ∈ is->i≠j->lP ops r b i m->lP ops r b j dA->e.run m.k dA.k=some false
 | _,_,.nil,_,_,i,_,_,_,au,_,_,_,_=>by simp at au
 | _,_,.cons (a:=x) (b:=eT) (JP:=xs) (JQ:=ahg) a1 aE,aX,bF,i,j,m,dA,au,bJ,rl,hm,n1=>by
   simp only [Ah,amX] at bF;rw [ao5] at aX;have Rc:∀k n,k ∈ xs->lP ops r b k n->n ∈ ahg:=by
    intro k n ay ab7;have gen:∀{is:List Nat} {ms:List cK},pV (lP ops r b) is ms->k ∈ is->n ∈ ms:=by
     intro is ms aA
     induction aA with
     | nil=>intro ay;simp at ay
     | cons J _ bA=>
       intro ay;rcases ans.1 ay with rfl | ay
       . rw [ab7.Ht J];simp
       . exact anJ _ (bA ay)
    exact gen aE ay
   rcases ans.1 au with Ql | au
   . rcases ans.1 bJ with IE | bJ
     . exact absurd (Ql.trans IE.symm) rl
     . rw [Ql] at hm;rw [hm.Ht a1];exact (GS bF.1 dA (Rc j dA bJ n1)).1
   . rcases ans.1 bJ with IE | bJ
     . rw [IE] at n1;rw [n1.Ht a1];exact (GS bF.1 m (Rc i m au hm)).2
     . exact LL aE aX.2 bF.2 i j m dA au bJ rl hm n1
theorem Jp {jW:bN} {b:aU} {e:ec} {I:List Nat} (qc:∀i ∈ I,∃o A m,ops[i]? =some o/\mF o=some A/\(BH P A.t=true/\ui P A.t=e)/\ud ops jW b o=some m/\∃v H1 c6,(cU P az ops o).run call jW H1=.val v c6)
 (D':∀i j m dA,i ∈ I->j ∈ I->i≠j->lP ops jW b i m->lP ops jW b j dA->e.run m.k dA.k=some false):
 ∀(τ:List Nat) (done:List Nat) (ds:List cK) (c:Nat) (H:ah),(∀i ∈ τ,i ∈ I)->(∀i ∈ done,i ∈ I)->(done++τ).Nodup->(∀m ∈ ds,∃i ∈ done,∃dA,lP ops jW b i dA/\m.k=dA.k)->H.get b=.mp ds c->
  ∃es ms hU k2,(f' P az ops (hZ ops τ)).run call jW H=.ok es jW k2/\k2.get b=.mp (ds++ms) hU/\(∀k,b≠k->k2.get k=H.get k)/\(∀k,k2.set b k=H.set b k)/\(∀e ∈ es,∀k,b≠k->e.h.get k=H.get k)/\
   pV (fun i (m:cK)=>∃dA,lP ops jW b i dA/\m.k=dA.k/\m.v=dA.v) τ ms
 | [],done,ds,c,H,_,_,_,_,nm=>⟨[],[],c,H,rfl,by rw [anC];exact nm,fun _ _=>rfl,fun _=>rfl,fun e he=>by simp at he,.nil⟩
 | i::τ,done,ds,c,H,Et,P_,ps,qf,nm=>by
   obtain ⟨o,A,m,a8,dK,⟨yr,wa⟩,hm,v,H1,c6,df⟩:=qc i (Et i (by simp));obtain ⟨kG,P0,aj,ay,ar⟩:=adx hm;rw [dK] at P0;cases P0;have rr:i ∉ done:=fun h=>by rw [List.nodup_append] at ps;exact ps.2.2 i h i (by simp) rfl
   have iw:=ZA yr dK df aj H ds c nm (fun dA n1=>by
    obtain ⟨j,bJ,ahb,abO,ab6⟩:=qf dA n1;rw [ab6,wa,<-ay]
    exact D' i j m ahb (Et i (by simp)) (P_ j bJ) (fun e=>rr (e ▸ bJ)) ⟨o,a8,hm⟩ abO)
   obtain ⟨_,aZ,_⟩:=Bw dK;obtain ⟨es,ms,hU,k2,g1,g2,g3,g4,g6,g5⟩:=Jp qc D' τ (done++[i]) (ds++[⟨(bZ A.k).run (dM jW (b2 ops o)),(bZ A.x).run (dM jW (b2 ops o)),c⟩]) (c+1)
    (H.set b (.mp (ds++[⟨(bZ A.k).run (dM jW (b2 ops o)),(bZ A.x).run (dM jW (b2 ops o)),c⟩]) (c+1))) (fun j bJ=>Et j (by simp [bJ]))
    (fun j bJ=>by
      rcases aoV.1 bJ with h | h
      . exact P_ j h
      . simp only [aos] at h;subst h;exact Et j (by simp)) (by simpa using ps)
    (fun dA n1=>by
      rcases aoV.1 n1 with h | h
      . obtain ⟨j,bJ,r⟩:=qf dA h;exact ⟨j,by simp [bJ],r⟩
      . simp only [aos] at h;subst h
        exact ⟨i,by simp,m,⟨o,a8,hm⟩,ay.symm⟩) (by rw [ah.fm,anb rfl])
   have QT:=F3 (os:=hZ ops τ) iw (by rw [aZ];exact g1);rw [show o::hZ ops τ=hZ ops (i::τ) from by simp [hZ,a8]] at QT;refine ⟨_,⟨(bZ A.k).run (dM jW (b2 ops o)),(bZ A.x).run (dM jW (b2 ops o)),c⟩::ms,hU,k2,QT,by rw [g2,ana];rfl,fun k ay=>?_,fun k=>?_,fun dI e_ k ay=>?_,.cons ⟨m,⟨o,a8,hm⟩,ay.symm,ar.symm⟩ g5⟩
   . rw [g3 k ay,ah.fm,am7 ay]
   . rw [g4];unfold ah.set;simp only [T.Ts]
   . rcases ans.1 e_ with rfl | e_
     . rfl
     . rw [g6 dI e_ k ay,ah.fm,am7 ay]
def q1 (E:Env):List (V × V)->List MapEntry->Prop
 | [],l=>l=[]
 | p::bD,l=>∃e es,l=e::es/\Rel E p.1 e.key/\Rel E p.2 e.val/\q1 E bD es
theorem q1.perm {E:Env} {bD kD:List (V × V)} (h:bD.Perm kD):∀{l:List MapEntry},q1 E kD l->∃gd,q1 E bD gd/\gd.Perm l:=by
 induction h with
 | nil=>intro l h;exact ⟨l,h,.refl _⟩
 | cons x _ bA=>
   intro l h;obtain ⟨e,es,rfl,J,ad,aD⟩:=h;obtain ⟨gd,g1,g2⟩:=bA aD;exact ⟨e::gd,⟨e,gd,rfl,J,ad,g1⟩,g2.cons e⟩
 | swap x y pU=>
   intro l h;obtain ⟨e,es,rfl,J,ad,dI,q9,rfl,aD,bn,b0⟩:=h;exact ⟨dI::e::q9,⟨dI,_,rfl,aD,bn,e,q9,rfl,J,ad,b0⟩,List.Perm.swap _ _ _⟩
 | trans _ _ adh adi=>
   intro l h;obtain ⟨gC,g1,g2⟩:=adi h;obtain ⟨jB,g3,g4⟩:=adh g1;exact ⟨jB,g3,g4.trans g2⟩
theorem q1.SH {E:Env}:∀{ms:List cK} {l:List MapEntry},e5 E ms l->q1 E (ms.map fun m=>(m.k,m.v)) l
 | [],l,h=>h
 | m::ms,l,h=>by obtain ⟨e,es,rfl,J,ad,_,bn⟩:=h;exact ⟨e,es,rfl,J,ad,q1.SH bn⟩
theorem lR.SI {E:Env}:∀{ms:List cK} {l:List MapEntry},q1 E (ms.map fun m=>(m.k,m.v)) l->lR E ms l
 | [],l,h=>h
 | m::ms,l,h=>by obtain ⟨e,es,rfl,J,ad,bn⟩:=h;exact ⟨e,es,rfl,J,ad,lR.SI bn⟩
theorem ba.forget {aB:Fr} {E:Env} {h:ah} {w:World} (s:ba aB E h w) {b:aU} {p:iW} {es ms:List cK} {c:Nat} (al:h.get b=.mp es c) (ak:E b=some p) (ib:(ms.map fun m=>(m.k,m.v)).Perm (es.map fun m=>(m.k,m.v))):
 ba aB E (h.set b (.iy ms)) w:=by
 have aj:=s.at ak;rw [al] at aj;obtain ⟨p',a,hN,dr,bo,hm⟩:=aj;rw [ak] at hN;cases hN;obtain ⟨l,g1,g2⟩:=q1.perm ib (q1.SH hm);exact s.set (by rw [al];rfl) ak dr (am6 _) (fun _ _=>rfl) rfl rfl rfl (fun _ _ _ e=>by cases e) ⟨p,a,c,l,ak,dr,bo,lR.SI g1,g2⟩
theorem Rk:∀(l:List Oper),(∀o ∈ l,o.dst=none)->∀{r dk:bN} {h aA:ah} {es:List fr},(f' P az ops l).run call r h=.ok es dk aA->∀o ∈ l,∃v H1 c6,(cU P az ops o).run call r H1=.val v c6
 | [],_,_,_,_,_,_,_,o,a8=>by simp at a8
 | x::xs,aZ,r,dk,h,aA,es,he,o,a8=>by
   obtain ⟨v,J,h9,ag,av,rfl⟩:=F2 he;rcases ans.1 a8 with rfl | a8
   . exact ⟨v,h,J,ag⟩
   . rw [aZ x (by simp)] at av;exact Rk xs (fun cn ia=>aZ cn (by simp [ia])) av o a8
theorem agQ {t:TypeId} {H H1:ah} {c:aU} {off:Nat} (h:H.get c=H1.get c):(qC P t).run H (.ptr c off)=(qC P t).run H1 (.ptr c off):=by
 unfold qC;cases bf P t with
 | none=>rfl
 | some aO=>
   simp only;cases aO.agg with
   | true=>simp only [am4,oj,V.ke,h]
   | false=>
     simp only [anf];cases Nat.beq aO.size 1 with
     | true=>simp only [am4,om,V.ke,h]
     | false=>rfl
theorem ZC {o:Oper} {t:TypeId} {x:Operand} (a8:o.op=.load t x) (al:o.guard=none) {r:bN} {H1 aa:ah} {v:V} (he:(cU P az ops o).run call r H1=.val v aa) {c:aU} {off:Nat} (ar:(bZ x).run (dM r (b2 ops o))=.ptr c off)
 (H:ah) (nm:H.get c=H1.get c):(cU P az ops o).run call r H=.val v H:=by
 obtain ⟨J,ad⟩:=k9 he;have key:cU P az ops o=⟨jO none (fP P o) (b2 ops o)⟩:=by unfold cU;rw [show (fG az o.dst&&ji (b2 ops o))=true from by rw [J,ad];rfl,al];rfl
 rw [key] at he ⊢;simp only [jO] at he ⊢;have vS:∀H,(fP P o).run call (dM r (b2 ops o)) H=a7.of H ((qC P t).run H (.ptr c off)):=by intro H;unfold fP;rw [a8];simp only [ar]
 rw [vS] at he ⊢;rw [agQ nm];exact a7.wY he H
theorem R_ {es:List fr} {h:ah} {b:aU}:∀{is:List Nat} {p:Nat},BY P ops es h b call az is p=true->∀q i o t x,is[q]? =some i->ops[i]? =some o->o.op=.load t x->
 ∃e c off aa,es[p+q]? =some e/\(bZ x).run (dM e.r (b2 ops o))=.ptr c off/\c≠b/\o.guard=none/\(cU P az ops o).run call e.r h=.val e.v aa
 | [],_,_,q,i,o,t,x,h,_,_=>by simp at h
 | j::adP,p,ax,q,i,o,t,x,aq,a8,nt=>by
   simp only [BY] at ax;cases q with
   | succ q=>
     cases bJ:ops[j]? with
     | none=>rw [bJ] at ax;cases ax
     | some amt=>
       rw [bJ] at ax;simp only [amX] at ax;have:=R_ ax.2 q i o t x (by simpa using aq) a8 nt;rw [show p + (q+1)=p+1+q from by omega];exact this
   | zero=>
     simp only [anj,amW] at aq;subst aq;rw [a8] at ax;simp only [amX] at ax;have J:=ax.1;rw [nt] at J;simp only at J;rw [aoA];cases he:es[p]? with
     | none=>rw [he] at J;cases J
     | some e=>
       rw [he] at J;simp only at J;cases ar:(bZ x).run (dM e.r (b2 ops o))<;>rw [ar] at J<;>simp only at J<;>try (cases J;done)
       rename_i c off;simp only [amX,an1] at J;cases al:o.guard with
       | some _=>rw [al] at J;cases J.2
       | none=>
         rw [al] at J;simp only at J;have ad:=J.2;cases aJ:(cU P az ops o).run call e.r h with
         | fail=>rw [aJ] at ad;cases ad
         | cY _ _=>rw [aJ] at ad;cases ad
         | val v aa=>
           rw [aJ] at ad;have bB:=HG ad;exact ⟨e,c,off,aa,rfl,ar,(fun e=>by rw [e,aU.AJ] at J;cases J.1),rfl,by rw [aJ,bB]⟩
theorem yN {k:Nat}:∀{l:List Nat} {p:Nat},l.Nodup->l[p]? =some k->l.idxOf k=p
 | [],_,_,h=>by simp at h
 | x::xs,p,aX,h=>by
   rw [ao5] at aX;cases p with
   | zero=>
     simp only [anj,amW] at h;subst h;simp
   | succ p=>
     have ar:xs[p]? =some k:=by simpa using h
     have ez:x≠k:=fun e=>aX.1 (e ▸ anE ar);rw [List.idxOf_cons];simp only [aow,ez,anf,show (x == k)=false from by simpa using ez];rw [yN aX.2 ar]
def nz (ops:Array Oper) (i:Nat):Bool:=
 match ops[i]? with
 | some o=>l6 o
 | none=>false
theorem Ez {o:Oper} {A:xq} (h:mF o=some A):l6 o=true/\ft P o.op=true/\hl o=false:=by obtain ⟨a8,_,_⟩:=Bw h;refine ⟨by unfold l6;rw [a8],by rw [a8];rfl,by unfold hl;rw [a8]⟩
theorem agI {aF:List Nat} {cW db:Nat} {t:TypeId} (aA:BX P ops aF cW db t=true):∀i o,ops[i]? =some o->∃c7,(fi [] ops.toList)[i]? =some c7/\nE i o=true/\
 (∀k ok,ops[k]? =some ok->∃mk,(fi [] ops.toList)[k]? =some mk/\pI i c7 (b2 ops o) o.dst k mk ok (Nat.blt (posOf aF k) (posOf aF i))=true)/\
 (posOf aF i<cW->l6 o=false/\eR P o=false/\(looks o.op=true->ft P o.op=false->∃t x,o.op=.load t x))/\
 (¬posOf aF i<cW->posOf aF i<db->∃A,mF o=some A/\A.t=t)/\
 (¬posOf aF i<cW->¬posOf aF i<db->ft P o.op=false/\looks o.op=false):=by
 unfold BX at aA;simp only [amX] at aA;replace aA:=aA.2;intro i o au;obtain ⟨c7,J,ad⟩:=qU aA i o (by simpa using au);simp only [anB,amX] at ad;obtain ⟨⟨aD,bn⟩,b0⟩:=ad;refine ⟨c7,J,aD,fun k ok ay=>?_,fun aL=>?_,fun ks aL=>?_,fun ks abU=>?_⟩
 . obtain ⟨mk,bY,b_⟩:=qU bn k ok (by simpa using ay);simp only [anB] at b_;exact ⟨mk,bY,b_⟩
 . rw [show Nat.blt (posOf aF i) cW=true from by rw [anF];exact aL] at b0;simp only [am4,amX,an1,aog] at b0;refine ⟨b0.1.1,b0.1.2,fun ax he=>?_⟩;rcases b0.2 with (h | h) | h
   . rw [ax] at h;cases h
   . rw [he] at h;cases h
   . cases nt:o.op<;>rw [nt] at h<;>simp only at h<;>first
      | (cases h;done)
      | exact ⟨_,_,rfl⟩
 . rw [show Nat.blt (posOf aF i) cW=false from by rw [<-Bool.not_eq_true,anF];exact ks,show Nat.blt (posOf aF i) db=true from by rw [anF];exact aL] at b0;simp only [am4,anf] at b0;cases bF:mF o with
   | none=>rw [bF] at b0;cases b0
   | some A=>rw [bF] at b0;exact ⟨A,rfl,anP b0⟩
 . rw [show Nat.blt (posOf aF i) cW=false from by rw [<-Bool.not_eq_true,anF];exact ks,show Nat.blt (posOf aF i) db=false from by rw [<-Bool.not_eq_true,anF];exact abU] at b0;simp only [anf,amX,an1] at b0;exact b0
theorem agJ {order:List Nat} {es:List fr} {cW:Nat} {b:aU} {jW:bN} {A:xq} (h:ES ops order es cW=some (b,jW,A)):
 ∃e i o,es[cW]? =some e/\order[cW]? =some i/\ops[i]? =some o/\mF o=some A/\e.r=jW:=by
 unfold ES at h;cases he:es[cW]? with
 | none=>rw [he] at h;cases h
 | some e=>
   rw [he] at h;simp only at h;cases au:order[cW]? with
   | none=>rw [au] at h;cases h
   | some i=>
     rw [au] at h;simp only at h;cases a8:ops[i]? with
     | none=>rw [a8] at h;cases h
     | some o=>
       rw [a8] at h;simp only at h;cases bF:mF o with
       | none=>rw [bF] at h;cases h
       | some kG=>
         rw [bF] at h;simp only at h;cases hm:(bZ kG.m).run (dM e.r (b2 ops o))<;>rw [hm] at h<;>simp only at h<;>try (cases h;done)
         simp only [amW,aoi] at h;obtain ⟨_,ad,rfl⟩:=h;exact ⟨e,i,o,rfl,rfl,a8,bF,ad⟩
theorem Sh {r:bN} {b:aU} {f:Nat->V × V} (aA:∀i m,lP ops r b i m->f i=(m.k,m.v)):∀{is:List Nat} {ms:List cK},pV (fun i (m:cK)=>∃dA,lP ops r b i dA/\m.k=dA.k/\m.v=dA.v) is ms->ms.map (fun m=>(m.k,m.v))=is.map f
 | _,_,.nil=>rfl
 | _,_,.cons (a:=i) (b:=m) a1 aE=>by obtain ⟨dA,J,ad,aD⟩:=a1;simp only [anZ,Sh aA aE,aA i dA J,ad,aD]
theorem zi {n:Nat} {order aF:List Nat} (ib:mO n order aF=true) {p i:Nat} (h:order[p]? =some i):posOf aF i=p/\i<n:=by unfold mO at ib;simp only [amX,anA] at ib;obtain ⟨_,ad,_,bn⟩:=ib;have:=uJ bn h;rw [anB] at this;refine ⟨by unfold posOf;rw [this];rfl,?_⟩;have:=(anl.1 this).1;omega
theorem ahv {l:List Nat} {f:Nat->Nat} (h:∀p i,l[p]? =some i->f i=p):l.Nodup:=by rw [List.Nodup,List.pairwise_iff_getElem];intro i j au bJ rl he;have J:=h i _ (amY au);have ad:=h j _ (amY bJ);rw [he,ad] at J;omega
theorem pV.left {α β:Type} {R:α->β->Prop}:∀{gC:List α} {jB:List β},pV R gC jB->∀x ∈ gC,∃y ∈ jB,R x y
 | _,_,.nil,x,h=>by simp at h
 | _,_,.cons a1 aE,x,h=>by
   rcases ans.1 h with rfl | h
   . exact ⟨_,by simp,a1⟩
   . obtain ⟨y,J,ad⟩:=aE.left x h;exact ⟨y,by simp [J],ad⟩
theorem adE {o:Oper} (h:l6 o=true):ft P o.op=true/\hl o=false:=by
 unfold l6 at h;unfold hl;cases a8:o.op<;>rw [a8] at h<;>simp only at h<;>first
  | (cases h;done)
  | exact ⟨rfl,rfl⟩
theorem aky {pre σ post:List Nat} (ps:(pre++(σ++post)).Nodup) (k q:Nat):(pre[q]? =some k->(pre++(σ++post)).idxOf k=q)/\(σ[q]? =some k->(pre++(σ++post)).idxOf k=pre.length+q)/\(post[q]? =some k->(pre++(σ++post)).idxOf k=pre.length+σ.length+q):=by
 refine ⟨fun h=>yN ps ?_,fun h=>yN ps ?_,fun h=>yN ps ?_⟩
 . have:=(anl.1 h).1;rw [anp this];exact h
 . have:=(anl.1 h).1;rw [ano (by omega),aoP,anp this];exact h
 . rw [ano (by omega),ano (by omega)];rw [show pre.length+σ.length+q-pre.length-σ.length=q from by omega];exact h
theorem agM {rd:Option Nat} {D:List Deferred} {aB:Fr} {calls:Nat->et} {es:List fr} {bb:bN} {a1:ah} {dk:bN} {aA:ah} {e8 order aF:List Nat} (aK:e6 P) (c':∀i,ht P (calls i)) (ee:∀i,hG P (calls i))
 (C:Cert P az ops calls es bb a1 dk aA e8 order aF ops.size ops.size true) {iC:Env} {Q:Exit->Act->World->Prop}
 (dV:∀aw bt w',iC.le aw->RegRel0 aw az dk bt->bt.defers=D->ba aB aw aA w'->Q .normal bt w') {xI:List Nat}
 (gY:∀i k,nz ops i=true->nz ops k=true->posOf aF k<posOf aF i->∀a b,xI=a++i::b->k ∈ a):
 ∀(fuel t:Nat) (listed:Array Bool) (done:List Nat) (a:Act) (w:World),xI=done++Region.linearise.go .any ops fuel t listed []->(∀k,k<ops.size->(listed.getD k false=true↔k ∈ done))->
  (List.range ops.size).countP (fun i=>!listed.getD i false)<=fuel->qV P aB az ops es bb aA e8 aF iC ops.size D listed a w->wpOpsIn (cb rd) 0 P ops Q (Region.linearise.go .any ops fuel t listed []) a w:=by
 have i':∀i o,ops[i]? =some o->nE i o=true:=fun i o h=>by obtain ⟨_,_,ad,_⟩:=C.nX i o h;exact ad
 have fin:∀(listed:Array Bool) (a:Act) (w:World),(∀k,k<ops.size->listed.getD k false=true)->qV P aB az ops es bb aA e8 aF iC ops.size D listed a w->Q .normal a w:=by intro listed a w du I;obtain ⟨aw,g1,g2,g3,g4⟩:=OY C (am6 _) I fun k ay _=>du k ay;exact dV aw a w g1 g2 g3 g4
 intro fuel
 induction fuel with
 | zero=>
   intro t listed done a w so IJ ao I;have a1:(List.range ops.size).countP (fun i=>!listed.getD i false)=0:=by omega
   rw [List.countP_eq_zero] at a1;exact fin listed a w (fun k ay=>by simpa using a1 k (aoy.2 ay)) I
 | succ fuel bA=>
   intro t listed done a w so IJ ao I;rw [go_succ] at so ⊢;cases aJ:w7 ops t listed with
   | none=>exact fin listed a w (fun k ay=>zk i' I.sV (TD aJ) k ay) I
   | some i=>
     rw [aJ] at so;simp only at so ⊢;obtain ⟨i1,i2⟩:=w8 I.sV (Ky aJ);have ax:i<listed.size:=by rw [I.sV];exact i1
     have alX:=count_set I.sV i1 i2;rw [wpOpsIn_cons];refine O7 aK c' ee C I (Ky aJ) (C.iQ i i1).1 (fun _ o k ok cP v' Eh ab5 aL=>?_) (fun bt w' Gn=>bA _ _ (done++[i]) bt w' (by rw [ana];exact so) (fun k ay=>?_) (by omega) Gn) (fun _ _ _ _ _ _ _ h=>absurd h (aoj _))
     . have ay:k<ops.size:=(am1.1 Eh).1;exact (IJ k ay).2 (gY i k (by unfold nz;rw [cP];exact v') (by unfold nz;rw [Eh];exact ab5) aL _ _ so)
     . rw [gk ax,IJ k ay,aoV,aos];exact Or.comm
def HB (ops:Array Oper) (r:bN) (b:aU) (i:Nat):V × V:=
 match ops[i]? with
 | some o=>(match ud ops r b o with
   | some m=>(m.k,m.v)
   | none=>(.bad,.bad))
 | none=>(.bad,.bad)
theorem Pa {r:bN} {b:aU} {i:Nat} {m:cK} (h:lP ops r b i m):HB ops r b i=(m.k,m.v):=by obtain ⟨o,J,ad⟩:=h;unfold HB;rw [J];simp only [ad]
theorem Si {r:bN} {b:aU}:∀{is:List Nat} {ms:List cK},pV (lP ops r b) is ms->ms.map (fun m=>(m.k,m.v))=is.map (HB ops r b)
 | _,_,.nil=>rfl
 | _,_,.cons a1 aE=>by simp only [anZ,Si aE,Pa a1]
theorem agN {rd:Option Nat} {aB:Fr} {E:Env} {h:ah} {w:World} {id:Nat} (dE:P.follows .mixedOrders=true) (aK:e6 P) (c':ht P call) (ee:hG P call) {r:bN} {a:Act} {order aF:List Nat} {cW db:Nat} (ib:mO ops.size order aF=true)
 {Q:Exit->Act->World->Prop} (ak:oI aB E az (Q .normal) Q (JO P az ops order aF cW db (f' P az ops (hZ ops order)) call r h)) (k:fU E az r a) (s:ba aB E h w):(Code.region id ops true).wpIn (cb rd) 0 P Q a w:=by
 unfold JO at ak;cases df:(f' P az ops (hZ ops order)).run call r h with
 | fail=>rw [df] at ak;exact ak.elim
 | cY _ _ _ _ _=>rw [df] at ak;exact ak.elim
 | ok es eI bo=>
 rw [df] at ak;simp only at ak;cases nr:ES ops order es cW with
 | none=>rw [nr] at ak;exact ak.elim
 | some x=>
 obtain ⟨b,jW,A⟩:=x;rw [nr] at ak;simp only at ak;cases nZ:(cr es bo cW).get b<;>rw [nZ] at ak<;>try (exact False.elim ak)
 rename_i ZU tB;cases ZU with
 | cons _ _=>exact False.elim ak
 | nil=>
 simp only at ak;cases yv:wF ops jW b ((order.drop cW).take (db-cW)) with
 | none=>rw [yv] at ak;exact ak.elim
 | some ms=>
 rw [yv] at ak;simp only at ak;cases ao:(BX P ops aF cW db A.t&&(Ah (ui P A.t) ms&&(BY P ops es (cr es bo cW) b call az (order.take cW) 0&&AL ((bZ A.m).run eI) (.map b)))) with
 | false=>rw [ao] at ak;exact ak.elim
 | true=>
 rw [ao] at ak;simp only [am4] at ak;simp only [amX] at ao;obtain ⟨Ei,D',eE,sz⟩:=ao;have sz:=HG sz;obtain ⟨n5,Tc,amw⟩:=S8 ib;have IT:order.Nodup:=ahv fun p i h=>(zi ib h).1;obtain ⟨dJ,i0,iz,Iq,bS,acs,AS,abQ⟩:=agJ nr;obtain ⟨aiN,-,-,-⟩:=uT df;have hlen:es.length=ops.size:=by rw [aiN,qD,n5]
 have iJ:cW<ops.size:=by rw [<-n5];exact (anl.1 bS).1
 have nX:=agI Ei;generalize lq:order.take cW=pre at eE;generalize v':(order.drop cW).take (db-cW)=ins at yv;generalize QJ:(order.drop cW).drop (db-cW)=post;have qp:order=pre++(ins++post):=by rw [<-lq,<-v',<-QJ,aoB,aoB]
 have yA:pre.length=cW:=by rw [<-lq,anH];omega
 have al6:cW<db:=by
  obtain ⟨wh,_⟩:=zi ib bS;rcases an7 cW db with h | h
  . exact h
  . exfalso;obtain ⟨_,_,_,_,_,_,f3⟩:=nX i0 iz acs;obtain ⟨ar,_⟩:=f3 (by omega) (by omega);rw [(Ez (P:=P) AS).2.1] at ar;cases ar
 have ab3:ins.length=db-cW\/post=[]:=by
  rcases an7 (db-cW) (order.drop cW).length with h | h
  . left;rw [<-v',anH];omega
  . right;rw [<-QJ];exact anD h
 have G6:∀q i,pre[q]? =some i->posOf aF i=q/\i<ops.size/\q<cW:=by intro q i h;have aq:=(anl.1 h).1;obtain ⟨J,ad⟩:=zi ib (p:=q) (i:=i) (by rw [qp,anp aq];exact h);exact ⟨J,ad,by omega⟩
 have G4:∀q i,ins[q]? =some i->posOf aF i=cW+q/\i<ops.size/\cW+q<db:=by
  intro q i h;have aq:=(anl.1 h).1;obtain ⟨J,ad⟩:=zi ib (p:=cW+q) (i:=i) (by rw [qp,ano (by omega),yA,aoP,anp aq];exact h);refine ⟨J,ad,?_⟩;have:ins.length<=db-cW:=by rw [<-v',anH];omega
  omega
 have G5:∀q i,post[q]? =some i->posOf aF i=cW+ins.length+q/\i<ops.size/\ins.length=db-cW:=by
  intro q i h;have ax:ins.length=db-cW:=by
   rcases ab3 with aa | aa
   . exact aa
   . rw [aa] at h;simp at h
  obtain ⟨J,ad⟩:=zi ib (p:=cW+ins.length+q) (i:=i) (by rw [qp,ano (by omega),ano (by omega),yA,show cW+ins.length+q-cW-ins.length=q from by omega];exact h);exact ⟨J,ad,ax⟩
 have UP:∀i,i<ops.size->(∃q:Nat,pre[q]? =some i)\/(∃q:Nat,ins[q]? =some i)\/∃q:Nat,post[q]? =some i:=by
  intro i au;have hm:i ∈ order:=anE (Tc i au).2;rw [qp,aoV,aoV] at hm;rcases hm with h | h | h
  . exact .inl (anK.1 h)
  . exact .inr (.inl (anK.1 h))
  . exact .inr (.inr (anK.1 h))
 have Kq:∀i o,i ∈ pre->ops[i]? =some o->l6 o=false/\eR P o=false/\(looks o.op=true->ft P o.op=false->∃t x,o.op=.load t x):=by intro i o au a8;obtain ⟨q,aq⟩:=anK.1 au;obtain ⟨J,ad,aD⟩:=G6 q i aq;obtain ⟨_,_,_,_,f1,_,_⟩:=nX i o a8;exact f1 (by omega)
 have Bx:∀i,i ∈ ins->∃o kG,ops[i]? =some o/\mF o=some kG/\kG.t=A.t:=by intro i au;obtain ⟨q,aq⟩:=anK.1 au;obtain ⟨J,ad,aD⟩:=G4 q i aq;obtain ⟨_,_,_,_,_,f2,_⟩:=nX i _ (ani ad);obtain ⟨kG,g1,g2⟩:=f2 (by omega) (by omega);exact ⟨_,kG,ani ad,g1,g2⟩
 have Ck:∀i o,i ∈ post->ops[i]? =some o->ft P o.op=false/\looks o.op=false:=by intro i o au a8;obtain ⟨q,aq⟩:=anK.1 au;obtain ⟨J,ad,aD⟩:=G5 q i aq;obtain ⟨_,_,_,_,_,_,f3⟩:=nX i o a8;exact f3 (by omega) (by omega)
 have Jn:∀i,i<ops.size->(nz ops i=true↔i ∈ ins):=by
  intro i au;have cP:ops[i]? =some ops[i]:=ani au;constructor
  . intro h;unfold nz at h;rw [cP] at h;simp only at h;rcases UP i au with ⟨q,aq⟩ | ⟨q,aq⟩ | ⟨q,aq⟩
    . rw [(Kq i _ (anE aq) cP).1] at h;cases h
    . exact anE aq
    . have:=(Ck i _ (anE aq) cP).1;rw [(adE (P:=P) h).1] at this;cases this
  . intro h;obtain ⟨o,kG,g1,g2,_⟩:=Bx i h;unfold nz;rw [g1];exact (Ez (P:=P) g2).1
 have IU:ins.Nodup:=by rw [qp] at IT;exact (List.nodup_append.1 (List.nodup_append.1 IT).2.1).1
 have Bl:=df;rw [qp,Cb,Cb] at Bl;obtain ⟨h9,bT,J,ZV,wq,QL,rh⟩:=KQ _ _ Bl;obtain ⟨q',di,ad,HH,mD,acF,alY⟩:=KQ _ _ QL;obtain ⟨gC,-,-,-⟩:=uT wq;rw [qD,yA] at gC;obtain ⟨-,b4,b1,-⟩:=uT QL;have Qc:ZV[0]? =some dJ:=by rw [rh,ano (by omega),gC,aoG] at Iq;exact Iq
 have acH:bT=jW:=by unfold e2 at b1;rw [Qc] at b1;exact b1.symm.trans abQ
 have abY:cr es bo cW=J:=by unfold cr at b4 ⊢;rw [Iq];rw [Qc] at b4;exact b4
 subst acH;rw [abY] at nZ eE;have qc:∀i ∈ ins,∃o kG m,ops[i]? =some o/\mF o=some kG/\(BH P kG.t=true/\ui P kG.t=ui P A.t)/\ud ops bT b o=some m/\∃v H1 c6,(cU P az ops o).run call bT H1=.val v c6:=by
  intro i au;obtain ⟨o,kG,g1,g2,g3⟩:=Bx i au;obtain ⟨m,_,cn,g4,g5⟩:=(Ey yv).left i au;rw [g1] at g4;cases g4;refine ⟨o,kG,m,g1,g2,⟨by rw [g3];unfold BX at Ei;rw [amX] at Ei;exact Ei.1,by rw [g3]⟩,g5,Rk (hZ ops ins) (fun c4 yx=>?_) mD o ?_⟩
  . obtain ⟨q,aq⟩:=anK.1 yx;have tV:q<ins.length:=by rw [<-qD (ops:=ops)];exact (anl.1 aq).1
    obtain ⟨amp,k0,BA,wG,_⟩:=Bx _ (am3 tV);have:=ou (amY tV) BA;rw [aq] at this;cases this;exact (Bw wG).2.1
  . obtain ⟨q,aq⟩:=anK.1 au;exact anE (ou aq g1)
 have D_:=LL (Ey yv) IU D';obtain ⟨alI,amm,alA,nK,HS,alN,alO,aas,_,alP⟩:=Jp qc D_ ins [] [] tB J (fun i au=>au) (fun i au=>by simp at au) (by simpa using IU) (fun m hm=>by simp at hm) nZ;rw [mD] at HS;simp only [qW.ok.injEq] at HS;obtain ⟨-,acE,abf⟩:=HS;subst acE abf
 obtain ⟨yq,acD⟩:=Tu (hZ ops post) (fun c4 yx=>by
  obtain ⟨q,aq⟩:=anK.1 yx;have tV:q<post.length:=by rw [<-qD (ops:=ops)];exact (anl.1 aq).1
  obtain ⟨_,Qm,_⟩:=G5 q _ (amY tV);have:=ou (amY tV) (ani Qm);rw [aq] at this;cases this;exact Ck _ _ (am3 tV) (ani Qm)) acF
 subst yq;refine wpIn_region_draw fun t=>?_;simp only [Region.schedule,dE,Bool.true_or,anz];have i':∀i o,ops[i]? =some o->nE i o=true:=fun i o h=>by obtain ⟨_,_,ad,_⟩:=nX i o h;exact ad
 have d_:∀k,¬(Array.replicate ops.size false).getD k false=true:=by
  intro k;rw [tI,Array.getElem?_replicate]
  split<;>simp
 obtain ⟨s1,s2,Ct⟩:=PR (ops:=ops) i' ops.size t (Array.replicate ops.size false) (by simp) (anM aoU (by simp));change wpOpsIn (cb rd) 0 P ops Q (Region.linearise.go .any ops ops.size t (Array.replicate ops.size false) []) a {w with drawn:=w.drawn+1};generalize so:Region.linearise.go .any ops ops.size t (Array.replicate ops.size false) []=xI at s1 s2 Ct;generalize Jl:xI.filter (nz ops)=σ;have JX:∀k,k ∈ σ↔k ∈ ins:=by
  intro k;rw [<-Jl,List.mem_filter];constructor
  . rintro ⟨g1,g2⟩;exact (Jn k (s2 k g1).1).1 g2
  . intro g;obtain ⟨q,aq⟩:=anK.1 g;have ay:=(G4 q k aq).2.1;refine ⟨?_,(Jn k ay).2 g⟩;rcases Ct k ay with h | h
    . exact absurd h (d_ k)
    . exact h
 have QD:σ.Nodup:=by rw [<-Jl];exact s1.filter _
 have I3:σ.Perm ins:=(List.perm_ext_iff_of_nodup QD IU).2 JX;have Q6:σ.length=ins.length:=I3.length_eq;have mC:(pre++(σ++post)).Perm order:=by rw [qp];exact (I3.append_right post).append_left pre
 have IV:(pre++(σ++post)).Nodup:=mC.nodup_iff.2 IT;have Bb:(pre++(σ++post)).length=ops.size:=by rw [mC.length_eq,n5]
 have Dj:=aky IV;generalize acz:(List.range ops.size).map (fun k=>(pre++(σ++post)).idxOf k)=lH;have yz:∀k,k<ops.size->posOf lH k=(pre++(σ++post)).idxOf k:=by intro k ay;rw [<-acz];unfold posOf;rw [anQ,List.getElem?_range ay];rfl
 have Cf:∀i,i<ops.size->i ∈ pre->posOf lH i=posOf aF i/\posOf aF i<cW:=by intro i au hm;obtain ⟨q,aq⟩:=anK.1 hm;obtain ⟨g1,_,g3⟩:=G6 q i aq;rw [yz i au,(Dj i q).1 aq,g1];exact ⟨rfl,g3⟩
 have Ce:∀i,i<ops.size->i ∈ ins->∃q:Nat,σ[q]? =some i/\posOf lH i=cW+q/\q<ins.length/\cW<=posOf aF i/\posOf aF i<cW+ins.length:=by intro i au hm;obtain ⟨q,aq⟩:=anK.1 ((JX i).2 hm);obtain ⟨fy,sC⟩:=anK.1 hm;obtain ⟨g1,_,g3⟩:=G4 fy i sC;have:=(anl.1 aq).1;have:=(anl.1 sC).1;exact ⟨q,aq,by rw [yz i au,(Dj i q).2.1 aq,yA],by omega,by omega,by omega⟩
 have Ki:∀i,i<ops.size->i ∈ post->posOf lH i=posOf aF i/\cW+ins.length<=posOf aF i:=by intro i au hm;obtain ⟨q,aq⟩:=anK.1 hm;obtain ⟨g1,_,_⟩:=G5 q i aq;rw [yz i au,(Dj i q).2.2 aq,g1,Q6,yA];exact ⟨rfl,by omega⟩
 have cls:∀i,i<ops.size->i ∈ pre\/i ∈ ins\/i ∈ post:=by
  intro i au;rcases UP i au with ⟨q,aq⟩ | ⟨q,aq⟩ | ⟨q,aq⟩
  . exact .inl (anE aq)
  . exact .inr (.inl (anE aq))
  . exact .inr (.inr (anE aq))
 obtain ⟨vF,amn,alB,zV,PK,aat,aau,aav,aax,aaw⟩:=Jp qc D_ σ [] [] tB J (fun i au=>(JX i).1 au) (fun i au=>by simp at au) (by simpa using QD) (fun m hm=>by simp at hm) nZ;obtain ⟨x1,acG⟩:=acD zV;have QR:=KR _ _ wq (KR _ _ PK acG);rw [<-Cb,<-Cb] at QR;obtain ⟨af',-,-,-⟩:=uT PK;rw [qD,Q6] at af';obtain ⟨c9,z2,z3,z4⟩:=uT QR;rw [qD,Bb] at c9;have Td:∀k,k<ops.size->posOf lH k<ops.size/\(pre++(σ++post))[posOf lH k]? =some k:=by intro k ay;have hm:k ∈ pre++(σ++post):=mC.mem_iff.2 (anE (Tc k ay).2);obtain ⟨q,aq⟩:=anK.1 hm;have I4:=yN IV aq;rw [yz k ay,I4];have:=(anl.1 aq).1;exact ⟨by omega,aq⟩
 have ail:∀p,p<ops.size->∃i,i<ops.size/\posOf lH i=p:=by intro p ak;have aq:(pre++(σ++post))[p]? =some ((pre++(σ++post))[p]'(by omega)):=amY _;have hm:(pre++(σ++post))[p]'(by omega) ∈ order:=mC.mem_iff.1 (am3 _);obtain ⟨q,wm⟩:=anK.1 hm;have aL:=(zi ib wm).2;exact ⟨_,aL,by rw [yz _ aL];exact yN IV aq⟩
 have Ot:∀j o,ops[j]? =some o->eR P o=true->j ∈ ins:=by
  intro j o a8 np;rcases cls j (am1.1 a8).1 with h | h | h
  . rw [(Kq j o h a8).2.1] at np;cases np
  . exact h
  . unfold eR at np;rw [(Ck j o h a8).1] at np;cases np
 have Jo:∀k ok,k ∈ ins->ops[k]? =some ok->ok.dst=none/\l6 ok=true:=by intro k ok ay bC;obtain ⟨o,kG,g1,g2,_⟩:=Bx k ay;rw [bC] at g1;cases g1;exact ⟨(Bw g2).2.1,(Ez (P:=P) g2).1⟩
 have Wn:∀st,st=ops.size\/(∃k,k<ops.size/\k ∈ ins/\st=posOf lH k)->∀c,b≠c->(cr (h9++(vF++x1)) zV st).get c=J.get c:=by
  rintro st (rfl | ⟨k,ay,hj,rfl⟩) c ao
  . unfold cr;rw [anv (by omega)];exact aau c ao
  . obtain ⟨q,_,g2,g3,_⟩:=Ce k ay hj;have wo:q<vF.length:=by omega
    unfold cr;rw [g2,ano (by omega),gC,aoP,anp wo,amY wo];exact aax _ (am3 wo) c ao
 have C:Cert P az ops (fun _=>call) (h9++(vF++x1)) r h eI zV (ig P lH 0 ops.toList) (pre++(σ++post)) lH ops.size ops.size true:=by
  refine ⟨c9,am6 _,am6 _,Td,ail,z2,z3,?_,?_,?_,?_,?_,?_,fun h=>absurd h (aoj _),fun h=>absurd h (aoj _)⟩
  . intro i o a8 _;exact z4 _ o (ou (Td i (am1.1 a8).1).2 a8)
  . intro i o cP;obtain ⟨c7,f1,f2,f3,_⟩:=nX i o cP;refine ⟨c7,f1,f2,fun _ k ok bC _=>?_⟩;obtain ⟨mk,f4,f5⟩:=f3 k ok bC;have au:i<ops.size:=(am1.1 cP).1;have ay:k<ops.size:=(am1.1 bC).1;refine ⟨mk,f4,?_,fun he np aL=>?_⟩
    . by_cases hj:k ∈ ins
      . unfold pI;rw [(Jo k ok hj bC).1];simp
      . have aj:Nat.blt (posOf lH k) (posOf lH i)=Nat.blt (posOf aF k) (posOf aF i):=by
         rw [anT,anF,anF];rcases cls k ay with ao | ao | ao
         . obtain ⟨bR,a2⟩:=Cf k ay ao;rcases cls i au with aZ | aZ | aZ
           . obtain ⟨b8,cF⟩:=Cf i au aZ;omega
           . obtain ⟨q,_,cF,k6,nQ,nR⟩:=Ce i au aZ;omega
           . obtain ⟨b8,cF⟩:=Ki i au aZ;omega
         . exact absurd ao hj
         . obtain ⟨bR,a2⟩:=Ki k ay ao;rcases cls i au with aZ | aZ | aZ
           . obtain ⟨b8,cF⟩:=Cf i au aZ;omega
           . obtain ⟨q,_,cF,k6,nQ,nR⟩:=Ce i au aZ;omega
           . obtain ⟨b8,cF⟩:=Ki i au aZ;omega
        rw [aj];exact f5
    . have hj:=Ot k ok bC np;obtain ⟨amx,_,cF,k6,nQ,nR⟩:=Ce k ay hj;rcases cls i au with aZ | aZ | aZ
      . obtain ⟨bR,a2⟩:=Cf i au aZ;omega
      . exact .inr ⟨rfl,(Jo i o aZ cP).2,(Jo k ok hj bC).2⟩
      . rw [(Ck i o aZ cP).1] at he;cases he
  . have:=EO (P:=P) (aF:=lH) (l:=ops.toList) (i:=0);simpa using this
  . intro j o g1 g2;have:=y0 (P:=P) (aF:=lH) (i:=0) (j:=j) (l:=ops.toList) (o:=o) (by simpa using g1) g2;simpa using this
  . intro st c2;rcases uu c2 with h | ⟨j,o,g1,g2,g3⟩
    . exact .inl (.inl (by simpa using h))
    . exact .inr ⟨j,o,by simpa using g1,g2,by simpa using g3⟩
  . intro j o rm ax he _;have bJ:j<ops.size:=(am1.1 rm).1;have oV:j ∈ pre:=by
     rcases cls j bJ with aZ | aZ | aZ
     . exact aZ
     . obtain ⟨cn,kG,g1,g2,_⟩:=Bx j aZ;rw [rm] at g1;cases g1;rw [(Ez (P:=P) g2).2.1] at he;cases he
     . rw [(Ck j o aZ rm).2] at ax;cases ax
    obtain ⟨uW,UZ,nt⟩:=(Kq j o oV rm).2.2 ax he;obtain ⟨q,aq⟩:=anK.1 oV;obtain ⟨bR,_,a3⟩:=G6 q j aq;obtain ⟨e,c,off,aa,fe,fu,y3,y4,alq⟩:=R_ eE q j o uW UZ aq rm nt;have abM:(h9++(vF++x1))[posOf lH j]? =some e:=by rw [(Cf j bJ oV).1,bR,anp (by omega)];rw [anB,rh,anp (by omega)] at fe;exact fe
    refine ⟨e,abM,fun st c2 _=>⟨call,_,⟨c',ee⟩,ZC nt y4 alq fu _ (Wn st ?_ c fun h=>y3 h.symm)⟩⟩;rcases uu c2 with h | ⟨bx,cn,g1,g2,g3⟩
    . exact .inl (by simpa using h)
    . have Em:ops[bx]? =some cn:=by simpa using g1
      exact .inr ⟨bx,(am1.1 Em).1,Ot bx cn Em g2,by simpa using g3⟩
 have mw:∀(aw:Env) (bt:Act),E.le aw->bt.defers=a.defers->∀(bI:bN),T.get .bad fs bI=T.get .bad fs r->lO aw (T.get .bad fs bI) bt.defers:=fun aw bt he aZ bI sE=>by rw [sE,aZ];exact k.defers.mono he
 have Ed:T.get .bad fs eI=T.get .bad fs r:=by have:=C.Hy ops.size (am6 _);have oY:(h9++(vF++x1))[ops.size]? =none:=anv (by omega);unfold e2 at this;rw [oY] at this;exact this
 have kS:Holds aB aB (h9++(vF++x1)) zV lH (kJ ops (h9++(vF++x1)) zV lH (Array.replicate ops.size false) 0):=
  ⟨rfl,fun _ _=>rfl,fun k ay=>(by obtain ⟨_,_,_,_,a1⟩:=ay;omega),fun k bx ay=>(by obtain ⟨_,_,_,_,a1⟩:=ay;omega)⟩
 obtain ⟨h3,dn,g1,g2,g3,g4,g5,g6⟩:=C.advance ops.size 0 (by omega) (fun k o _ _ _=>d_ k) aB kS (E:=E) (w:={w with drawn:=w.drawn}) (by rw [C.a1];exact s.same rfl rfl rfl rfl);rw [<-so];refine agM (aB:=aB) aK (fun _=>c') (fun _=>ee) C (iC:=E) (D:=a.defers) (xI:=xI) (fun aw bt w' ag av aI bU=>?_) (fun i k au ay aL bt bV abo=>?_) ops.size t _ [] a _ (by rw [so];rfl) (fun k _=>⟨fun h=>absurd h (d_ k),fun h=>by simp at h⟩) (anM aoU (by simp)) ?_
 . refine ak aw bt w' ag ⟨av,mw aw bt ag aI eI Ed⟩ ?_;have nw:=d' av A.m;rw [sz] at nw;simp only [Rel] at nw;obtain ⟨p,abe,_⟩:=nw;rw [aas,<-aav];refine bU.forget aat abe ?_;rw [anh,Si (Ey yv),Sh (fun i m h=>Pa h) aaw];exact I3.symm.map _
 . have gM:i<ops.size:=by
    unfold nz at au;cases a8:ops[i]? with
    | none=>rw [a8] at au;cases au
    | some o=>exact (am1.1 a8).1
   have IF:k<ops.size:=by
    unfold nz at ay;cases a8:ops[k]? with
    | none=>rw [a8] at ay;cases ay
    | some o=>exact (am1.1 a8).1
   have hj:=(Jn k IF).1 ay;have Q5:σ=bt.filter (nz ops)++i::bV.filter (nz ops):=by rw [<-Jl,abo,List.filter_append,List.filter_cons_of_pos au]
   have ku:posOf lH i=cW + (bt.filter (nz ops)).length:=by rw [yz i gM,(Dj i (bt.filter (nz ops)).length).2.1 (by rw [Q5,ano (am6 _),aoG];rfl),yA]
   obtain ⟨q,aq,mB,_⟩:=Ce k IF hj;have tV:q < (bt.filter (nz ops)).length:=by omega
   rw [Q5,anp tV] at aq;exact (List.mem_filter.1 (anE aq)).1
 . refine ⟨by simp,k.size,rfl,fun bx ay=>absurd ay (d_ bx),fun bx o e ay=>absurd ay (d_ bx),E,h3,dn,Env.le.refl E,g1,g3,fun bx o J ad=>⟨fun h=>absurd h (d_ bx),fun h=>by have:=g4 bx o J ad (aoL _);omega⟩,
    fun bx o _ _ h=>absurd h (d_ bx),g5,?_,fun t aE=>.inr ⟨fun bx o ay=>absurd ay (d_ bx),k.af t aE⟩⟩
   exact g6.same rfl rfl rfl rfl
theorem ZF {rd:Option Nat} {aB:Fr} {E:Env} {h:ah} {w:World} {id:Nat} (dE:P.follows .mixedOrders=true) (aK:e6 P) (c':ht P call) (ee:hG P call) {r:bN} {a:Act}
 {Q:Exit->Act->World->Prop} (ak:oI aB E az (Q .normal) Q ((Hv P az ops).run call r h)) (k:fU E az r a) (s:ba aB E h w):(Code.region id ops true).wpIn (cb rd) 0 P Q a w:=by
 unfold Hv at ak;generalize Cd P ops=order at ak;generalize Fq order 0 ops.toList=aF at ak;unfold O5 at ak;cases aA:(mO ops.size order aF&&xW P ops aF) with
 | false=>
   rw [aA] at ak;simp only [anf] at ak;cases j8:(mO ops.size order aF&&Cy P ops order aF) with
   | false=>
     rw [j8] at ak;simp only [anf] at ak;cases Iw:mO ops.size order aF with
     | false=>rw [Iw] at ak;exact ak.elim
     | true=>
       rw [Iw] at ak;simp only [am4] at ak;exact agN dE aK c' ee Iw ak k s
   | true=>
     rw [j8] at ak;simp only [am4] at ak;simp only [amX] at j8;exact ZG dE aK c' ee j8.1 j8.2 ak k s
 | true=>
   rw [aA] at ak;simp only [am4] at ak;simp only [amX] at aA;obtain ⟨ib,hW⟩:=aA;unfold mO at ib;simp only [amX,anA] at ib;obtain ⟨n5,yx,Be,Bf⟩:=ib;have iQ:∀k,k<ops.size->posOf aF k<ops.size/\order[posOf aF k]? =some k:=by
    intro k ay;have al:aF[k]? =some (posOf aF k):=by unfold posOf;rw [amY (by omega)];rfl
    have:=uJ Be al;rw [anB] at this;exact ⟨by have:=(anl.1 this).1;omega,this⟩
   have mc:∀p,p<ops.size->∃i,i<ops.size/\posOf aF i=p:=by intro p ak;have al:order[p]? =some (order[p]'(by omega)):=amY (by omega);have:=uJ Bf al;rw [anB] at this;refine ⟨order[p]'(by omega),by have:=(anl.1 this).1;omega,?_⟩;unfold posOf;rw [this];rfl
   have KP:∀j o,ops[j]? =some o->eR P o=true->posOf aF j ∈ ig P aF 0 ops.toList:=fun j o J ad=>by simpa using y0 (aF:=aF) (i:=0) (j:=j) (l:=ops.toList) (by simpa using J) ad
   have aj9:ops.size ∈ ig P aF 0 ops.toList:=by simpa using EO (P:=P) (aF:=aF) (l:=ops.toList) (i:=0)
   have Uh:∀N M,∀s ∈ ig P aF 0 ops.toList,(s=ops.size\/(s=N/\M=N))\/∃k o,ops[k]? =some o/\eR P o=true/\s=posOf aF k:=fun N M s aM=>by
    rcases uu aM with h | ⟨j,o,J,ad,aD⟩
    . exact .inl (.inl (by simpa using h))
    . exact .inr ⟨j,o,by simpa using J,ad,by simpa using aD⟩
   have Qf:∀i o,ops[i]? =some o->∃c7,(fi [] ops.toList)[i]? =some c7/\nE i o=true/\(posOf aF i<ops.size->
    ∀k ok,ops[k]? =some ok->posOf aF k<ops.size->∃mk,(fi [] ops.toList)[k]? =some mk/\pI i c7 (b2 ops o) o.dst k mk ok (Nat.blt (posOf aF k) (posOf aF i))=true/\(ft P o.op=true->eR P ok=true->posOf aF k<posOf aF i->gx c7 k=true\/(false=true/\l6 o=true/\l6 ok=true))):=by
    intro i o au;obtain ⟨c7,g1,g2,g3⟩:=O4 hW i o au
    exact ⟨c7,g1,g2,fun _ k ok ay _=>by
     obtain ⟨mk,fe,fu,y3⟩:=g3 k ok ay
     exact ⟨mk,fe,fu,fun a b c=>.inl (y3 a b c)⟩⟩
   have main:∀(q:CG),
    (∀es pr N,es.length=N->N<=ops.size->(∀i o,ops[i]? =some o->posOf aF i<N->∃e,es[posOf aF i]? =some e/\(cU P az ops o).run call e.r e.h=.val e.v (cr es pr (posOf aF i+1)))->
      (N<ops.size->∃i0 iz,ops[i0]? =some iz/\posOf aF i0=N/\eR P iz=true)->q.run call es pr=true->∀j o,ops[j]? =some o->looks o.op=true->ft P o.op=false->posOf aF j<N->∃e,es[posOf aF j]? =some e/\∀s ∈ ig P aF 0 ops.toList,
      sW P (fi [] ops.toList) ops.toList aF j (((fi [] ops.toList)[j]?).getD 0) s=true->∃aa,(cU P az ops o).run call e.r (cr es pr s)=.val e.v aa)->
    oI aB E az (Q .normal) Q (DD ops order aF (f' P az ops (hZ ops order)) q call r h)->(Code.region id ops true).wpIn (cb rd) 0 P Q a w:=by
    intro q tN df;unfold DD at df;cases c2:(f' P az ops (hZ ops order)).run call r h with
    | fail=>rw [c2] at df;exact df.elim
    | ok es eI bo=>
      rw [c2] at df;simp only at df;cases aq:q.run call es bo with
      | false=>rw [aq] at df;exact df.elim
      | true=>
        rw [aq] at df;simp only [am4] at df;obtain ⟨ag,av,aI,bU⟩:=uT c2;have hlen:es.length=ops.size:=by rw [ag,qD,n5]
        have iw:∀i o,ops[i]? =some o->posOf aF i<ops.size->∃e,es[posOf aF i]? =some e/\(cU P az ops o).run call e.r e.h=.val e.v (cr es bo (posOf aF i+1))/\e2 es eI (posOf aF i+1)=(gh o.dst).run e.r e.v:=
         fun i o a8 _=>bU _ o (ou (iQ i (am1.1 a8).1).2 a8)
        have C:Cert P az ops (fun _=>call) es r h eI bo (ig P aF 0 ops.toList) order aF ops.size ops.size false:=
         ⟨hlen,am6 _,am6 _,iQ,mc,av,aI,iw,Qf,aj9,KP,Uh _ _,
           fun j o J ad aD bn=>by obtain ⟨e,g1,g2⟩:=tN es bo _ hlen (am6 _) (fun i o a8 au=>by obtain ⟨e,c9,z2,_⟩:=iw i o a8 au;exact ⟨e,c9,z2⟩) (fun h=>by omega) aq j o J ad aD bn;exact ⟨e,g1,fun s aM hm=>by obtain ⟨aa,g3⟩:=g2 s aM hm;exact ⟨_,aa,⟨c',ee⟩,g3⟩⟩,
           fun h=>absurd h (aoj _),fun h=>absurd h (aoj _)⟩
        exact Hx dE aK c' ee k s C (fun _=>df) (fun _ _ _ _ _ _ _ h=>absurd h (aoj _)) (fun h=>absurd h (aoj _))
    | cY es eI bo v aa=>
      rw [c2] at df;simp only at df;cases aq:(Kj ops order aF es.length&&q.run call es bo) with
      | false=>rw [aq] at df;exact df.elim
      | true=>
        rw [aq] at df;simp only [am4] at df;simp only [amX] at aq;obtain ⟨wi,aq⟩:=aq;obtain ⟨av,aI,bU,iz,c8,eH,iR⟩:=Ui c2;have aL:es.length<ops.size:=by have:=(anl.1 c8).1;rw [qD,n5] at this;exact this
        obtain ⟨i0,bS,ku⟩:=mc es.length aL;have cP:ops[i0]? =some ops[i0]:=ani bS;have qp:=(iQ i0 bS).2;rw [ku] at qp;have acq:iz=ops[i0]:=by have:=ou qp cP;rw [c8] at this;cases this;rfl
        subst acq;unfold Kj at wi;rw [qp] at wi;simp only at wi;obtain ⟨m0,yt,_⟩:=qU wi i0 ops[i0] (by simp);have Q3:∀k ok,ops[k]? =some ok->∃mk,(fi [] ops.toList)[k]? =some mk/\(es.length<posOf aF k->gx mk i0=true)/\(hl ok=true->posOf aF k<es.length->gx m0 k=true):=by
         intro k ok ay;obtain ⟨mk,c9,z2⟩:=qU wi k ok (by simpa using ay);simp only [anB,amX] at z2;refine ⟨mk,c9,fun al=>?_,fun bF ax=>?_⟩
         . have:=z2.1;rw [show Nat.blt es.length (posOf aF k)=true from by rw [anF];exact al] at this;exact this
         . have:=z2.2;rw [bF,show Nat.blt (posOf aF k) es.length=true from by rw [anF];exact ax,yt] at this;exact this
        have yj:eR P ops[i0]=true:=by obtain ⟨bW,cw⟩:=Sn (P:=P) eH;unfold eR;rw [bW,cw];rfl
        have iw:∀i o,ops[i]? =some o->posOf aF i<es.length->∃e,es[posOf aF i]? =some e/\(cU P az ops o).run call e.r e.h=.val e.v (cr es bo (posOf aF i+1))/\e2 es eI (posOf aF i+1)=(gh o.dst).run e.r e.v:=
         fun i o a8 ax=>bU _ o ax (ou (iQ i (am1.1 a8).1).2 a8)
        have C:Cert P az ops (fun _=>call) es r h eI bo (ig P aF 0 ops.toList) order aF es.length ops.size false:=
         ⟨rfl,Nat.le_of_lt aL,Nat.le_of_lt aL,iQ,mc,av,aI,iw,Qf,by rw [<-ku];exact KP i0 _ cP yj,KP,Uh _ _,
           fun j o J ad aD bn=>by obtain ⟨e,g1,g2⟩:=tN es bo _ rfl (Nat.le_of_lt aL) (fun i o a8 au=>by obtain ⟨e,c9,z2,_⟩:=iw i o a8 au;exact ⟨e,c9,z2⟩) (fun _=>⟨i0,_,cP,ku,yj⟩) aq j o J ad aD bn;exact ⟨e,g1,fun s aM hm=>by obtain ⟨aa,g3⟩:=g2 s aM hm;exact ⟨_,aa,⟨c',ee⟩,g3⟩⟩,
           fun h=>absurd h (aoj _),fun _ _=>⟨i0,_,m0,cP,ku,eH,yt,fun k ok mk ay al IQ=>by
            obtain ⟨mk',c9,z2,_⟩:=Q3 k ok ay;rw [IQ] at c9;cases c9;exact z2 al,fun k ok ay bF ax=>by
            obtain ⟨mk',c9,_,z3⟩:=Q3 k ok ay;exact z3 bF ax,v,aa,iR⟩⟩
        refine Hx dE aK c' ee k s C (fun h=>absurd h (by omega)) (fun aw bt w' x v1 J g1 _ _ g3 g4 g5 g6=>?_) (fun h=>absurd h (aoj _));obtain ⟨i1,dc,c9,z2,z3⟩:=g3;have:i1=i0:=C.w2 (am1.1 c9).1 bS (by rw [z2,ku]);subst this;rw [cP] at c9;cases c9;rw [iR] at z3;cases z3;exact df aw bt w' x g1 g4 g5 g6
   cases ax:r' P ops.toList with
   | false=>
     rw [ax] at ak;have none:∀(l:List Oper),r' P l=false->∀(j:Nat) (o:Oper),l[j]? =some o->ft P o.op=false:=by
      intro l
      induction l with
      | nil=>intro _ j o h;simp at h
      | cons x l bA=>
        intro h j o a8;simp only [r',aoY] at h;cases j with
        | zero=>simp only [anj,amW] at a8;subst a8;exact h.1
        | succ j=>exact bA h.2 j o (by simpa using a8)
     refine main _ (fun es pr N hlen hle iw QU _ j o a8 eE aq A'=>?_) ak;have H_:N=ops.size:=by
      rcases an7 N ops.size with aL | ks
      . obtain ⟨i0,iz,c9,z2,z3⟩:=QU aL;have:=none _ ax i0 iz (by simpa using c9);unfold eR at z3;rw [this] at z3;cases z3
      . omega
     obtain ⟨e,cf,cd⟩:=iw j o a8 A';refine ⟨e,cf,fun s aM _=>?_⟩;have j':s=ops.size:=by
      rcases uu aM with h | ⟨EB,cn,J,ad,aD⟩
      . simpa using h
      . have:=none _ ax EB cn J;unfold eR at ad;rw [this] at ad;cases ad
     have flat:∀d,d<=ops.size->cr es pr d=cr es pr 0:=by
      intro d
      induction d with
      | zero=>intro _;rfl
      | succ d bA=>
        intro aZ;obtain ⟨i,da,gM⟩:=mc d (by omega);have cP:ops[i]? =some ops[i]:=ani da;obtain ⟨ZJ,b4,b1⟩:=iw i ops[i] cP (by omega);rw [gM] at b4 b1;have ez:ft P ops[i].op=false:=none _ ax i _ (by simp);rw [(vx ez b1).1,<-bA (by omega)];simp [cr,b4]
     have:e.h=cr es pr s:=by rw [j',flat ops.size (am6 _),<-flat (posOf aF j) (by omega)];simp [cr,cf]
     rw [<-this];exact ⟨_,cd⟩
   | true=>
     rw [ax] at ak;refine main _ (fun es pr N hlen hle iw QU I4 j o a8 eE aq A'=>?_) ak;obtain ⟨e,cf,_⟩:=iw j o a8 A';have:=G2 I4 j o (by simpa using a8) eE aq e (by simpa using cf);exact ⟨e,cf,by simpa using this⟩
end
def toExit:ei->Exit
 | .normal=>.normal
 | .exit id=>.exit id
 | .ret=>.ret
def Vp (C:Ctx):Prop:=
 ∀f p args h v aa,C.Kr f=some p->p.run args h=.val v aa->(∃fn,C.P.funcs[f]? =some fn/\fn.body.isSome=true)/\∀(aB:Fr) E w xs,bm E args xs->ba aB E h w->
  Calls C.P f xs.toArray w fun e w'=>∃aw x,e=.returned x/\E.le aw/\Rel aw v x/\ba aB aw aa w'
def U' (C:Ctx):Prop:=
 ∀f p args h v aa,C.ext f=some p->p.run args h=.val v aa->∀(aB:Fr) E w xs,bm E args xs->ba aB E h w->
  ∃aw x w',(callFunc f xs.toArray).run C.P w=.ok (.value x) w'/\E.le aw/\Rel aw v x/\ba aB aw aa w'
def p0 (C:Ctx):Prop:=Vp C/\U' C
theorem ra {P:Program} {rd:Option Nat} (m:Machine):m.fenced P (cb rd):=fenced_wide P m
def Gc (rd:Option Nat) (P:Program) (c:Code) (Q:Exit->Act->World->Prop) (a:Act) (w:World):Prop:=
 match c with
 | .loop x=>∀(b:Frame) (k:List Item) (cs:List Frame),b.roundOf=rd->∃e bt w',Q e bt w'/\ArrivesIn (Machine.fenced P (cb rd)) P (lone (b.atR a (.code x::.inLoop x::k)) cs w) b k cs e bt w'
 | c=>c.wpIn (cb rd) 0 P Q a w
theorem Gc.wp {rd:Option Nat} {P:Program} {c:Code} {Q:Exit->Act->World->Prop} {a:Act} {w:World} (h:Gc rd P c Q a w):c.wpIn (cb rd) 0 P Q a w:=by
 cases c with
 | loop x=>
   intro b k cs mE _ _;obtain ⟨e,bt,w',q,r⟩:=h b k cs mE;exact ⟨e,bt,w',q,.of_steps (.one (ra _) stepR_loop) r⟩
 | _=>exact h
def xF (aB:Fr) (E:Env) (az:Nat) (Q:Exit->Act->World->Prop):mV->Prop
 | .ok e r h=>∀aw bt w',E.le aw->fU aw az r bt->ba aB aw h w'->Q (toExit e) bt w'
 | .cY v r h=>∀aw bt w' x,E.le aw->fU aw az r bt->Rel aw v x->ba aB aw h w'->Q (.panic (qE x)) bt w'
 | .fail=>False
theorem xF.up {aB:Fr} {E aw:Env} (h:E.le aw) {az:Nat} {Q:Exit->Act->World->Prop} {x:mV} (k:xF aB E az Q x):xF aB aw az Q x:=by
 cases x with
 | ok e r bo=>exact fun aH a w ad=>k aH a w (h.trans ad)
 | cY v r bo=>exact fun aH a w x ad=>k aH a w x (h.trans ad)
 | fail=>exact k
def Lh (P:Program) (az:Nat) (c:Code) (run:bN->ah->mV):Prop:=
 ∀(rd:Option Nat) (aB:Fr) r h,(rd=none\/noMark c=true)->∀E a w,fU E az r a->ba aB E h w->∀Q:Exit->Act->World->Prop,xF aB E az Q (run r h)->Gc rd P c Q a w
def tk (P:Program) (ex:iD):Prop:=∀az c,Lh P az c (ex az c)
def w9 (tmps:Array Value):ResultVar->Sem Value
 | .tmp t=>pure (tmps.getD t undef)
 | .cell b t=>do loadVar t (<-asAddr (tmps.getD b undef))
theorem KB {P:Program} {aB:Fr} {E:Env} {az:Nat} {r:bN} {h:ah} {a:Act} {w:World} (k:RegRel0 E az r a) (s:ba aB E h w):∀{l:List ResultVar} {ai:List V},(lI P az l).run r h=some ai->
 ∃xs,bm E ai xs/\(l.mapM (w9 a.tmps)).run P w=.ok xs w
 | [],ai,he=>by simp only [lI,amW] at he;subst he;exact ⟨[],rfl,rfl⟩
 | .tmp t::l,ai,he=>by
   simp only [lI] at he;cases ao:(Nat.ble t top&&Nat.blt t az) with
   | false=>rw [ao] at he;cases he
   | true=>
     rw [ao] at he;simp only [am4] at he;simp only [amX,ann] at ao;cases aJ:(lI P az l).run r h with
     | none=>rw [aJ] at he;cases he
     | some us=>
       rw [aJ] at he;simp only [amW] at he;subst he;obtain ⟨xs,J,ad⟩:=KB k s aJ;refine ⟨_::xs,by simp only [bm];exact ⟨_,_,rfl,k.af t ao.1,J⟩,?_⟩;rw [List.mapM_cons,Sem.run_bind];simp only [w9,Sem.run_pure,Result.andThen_ok,Sem.run_bind,ad]
 | .cell b t::l,ai,he=>by
   simp only [lI] at he;cases ao:(Nat.ble b top&&Nat.blt b az) with
   | false=>rw [ao] at he;cases he
   | true=>
     rw [ao] at he;simp only [am4] at he;simp only [amX,ann] at ao;cases bB:(qC P t).run h (T.get .bad (aC b) r) with
     | none=>rw [bB] at he;cases he
     | some v=>
       rw [bB] at he;simp only at he;cases aJ:(lI P az l).run r h with
       | none=>rw [aJ] at he;cases he
       | some us=>
         rw [aJ] at he;simp only [amW] at he;subst he;obtain ⟨xs,J,ad⟩:=KB k s aJ;obtain ⟨Y,_,cV,A,dK,fV⟩:=R' (P:=P) s (k.af b ao.1) bB;refine ⟨Y::xs,by simp only [bm];exact ⟨_,_,rfl,cV,J⟩,?_⟩;rw [List.mapM_cons,Sem.run_bind];simp only [w9,dK,asAddr,Sem.run_bind,Sem.run_pure,Result.andThen_ok,fV,ad]
theorem LS:∀(args:List V) (i:Nat) (t:bN) (j:Nat),i+args.length<=top+1->j<=top->
 T.get .bad (aC j) (nP i args t)=if i<=j/\j<i+args.length then (args[j-i]?).getD .bad else T.get .bad (aC j) t
 | [],i,t,j,_,_=>by
   have:¬(i<=j/\j<i):=by omega
   simp [nP,this]
 | v::ai,i,t,j,h,bJ=>by
   simp only [am0] at h ⊢;rw [nP,LS ai _ _ _ (by omega) bJ];by_cases J:i+1<=j/\j<i+1+ai.length
   . rw [anb J,anb (by omega)];have:j-i=(j - (i+1))+1:=by omega
     rw [this,anS]
   . rw [am7 J,T.iH];by_cases ad:j=i
     . subst ad;rw [anb rfl,anb (by omega)];simp
     . rw [am7 (fun e=>ad (lF e).symm),am7 (by omega)]
theorem ahU {E:Env} {ai:List V} {xs:List Value} (h:bm E ai xs) (fn:Func) (a:Act) (P:Program) (w:World)
 (aJ:(fn.results.toList.mapM (w9 a.tmps)).run P w=.ok xs w):∃x,(results fn a.tmps).run P w=.ok x w/\Rel E (oneOf ai) x:=by
 have nr:(fn.results.mapM (w9 a.tmps)).run P w=.ok xs.toArray w:=by rw [Array.mapM_eq_mapM_toList,Sem.run_map,aJ];rfl
 have Ip:results fn a.tmps=(do
  let ai <-fn.results.mapM (w9 a.tmps)
  pure (if h:ai.size=1 then ai[0] else .tuple ai)):=by
  unfold results
  have:(fun x=>match x with
   | ResultVar.tmp t=>(pure (a.tmps.getD t undef):Sem Value)
   | ResultVar.cell b t=>do loadVar t (<-asAddr (a.tmps.getD b undef)))=w9 a.tmps:=by
   funext x;cases x<;>rfl
  rw [<-this];rfl
 have yB:(results fn a.tmps).run P w=.ok (if h:xs.toArray.size=1 then xs.toArray[0] else .tuple xs.toArray) w:=by rw [Ip,Sem.run_bind,nr];rfl
 refine ⟨_,yB,?_⟩
 match ai,h with
 | [],h=>
   simp only [bm] at h;subst h;simp only [oneOf,Rel];exact ⟨#[],rfl,rfl⟩
 | [v],h=>
   simp only [bm] at h;obtain ⟨y,cS,rfl,bc,rfl⟩:=h;simpa [oneOf] using bc
 | v::u::ai,h=>
   have ax:=h.length;have ez:¬xs.toArray.size=1:=by simp at ax ⊢;omega
   rw [dif_neg ez];simp only [oneOf,Rel];exact ⟨_,rfl,by simpa using h⟩
section
variable {C:Ctx}
theorem LR:∀(args:List V) (i:Nat) (t:bN),i+args.length<=top+1->T.get .bad fs (nP i args t)=T.get .bad fs t
 | [],_,_,_=>rfl
 | v::ai,i,t,h=>by simp only [am0] at h;simp only [nP];rw [LR ai (i+1) _ (by omega),T.iH,am7 (w0 (by omega))]
theorem Pd {E:Env} {az:Nat} {args:List V} {xs:List Value} (ax:bm E args xs) (j6:args.length<=az) (gz:az<=top):
 fU E az (nP 0 args .e) {tmps:=xs.toArray++Array.replicate (az-xs.toArray.size) undef,defers:=[]}:=by
 have hlen:=ax.length;refine ⟨⟨by simp;omega,fun t aE=>?_⟩,?_⟩
 . rw [LS _ _ _ _ (by omega) aE];by_cases aL:t<args.length
   . rw [anb (by omega),ao2,amY aL];obtain ⟨y,bc,cV⟩:=ax.get t args[t] (amY aL);simp only [aop];have:(xs.toArray++Array.replicate (az-xs.toArray.size) undef).getD t undef=y:=by
      rw [anq,aol (by simp;omega)];simp [bc]
     rw [this];exact cV
   . rw [am7 (by omega)];simp [Rel]
 . rw [LR _ _ _ (by omega)];simp [lO]
def jL (E:Env) (u:Option V) (m:FrameMode):Prop:=
 match u with
 | none=>m=.returning
 | some v=>∃x,Rel E v x/\m=.panicking (qE x)
theorem jL.mono {E aw:Env} (h:E.le aw) {u:Option V} {m:FrameMode} (k:jL E u m):jL aw u m:=by
 cases u with
 | none=>exact k
 | some v=>obtain ⟨x,J,ad⟩:=k;exact ⟨x,Rel.mono h _ _ J,ad⟩
theorem jL.settle {E:Env} {u:Option V} {m:FrameMode} (k:jL E u m):settle m=m:=by
 cases u with
 | none=>simp only [jL] at k;subst k;rfl
 | some v=>obtain ⟨x,J,rfl⟩:=k;rfl
theorem jL.run {E:Env} {u:Option V} {m:FrameMode} (k:jL E u m):m≠.run:=by
 cases u with
 | none=>simp only [jL] at k;subst k;simp
 | some v=>obtain ⟨x,J,rfl⟩:=k;simp
def CJ (P:Program) (k8:u6):Prop:=
 ∀f args u h eV aa,k8 f args u h=.go eV aa->(∃fn,P.funcs[f]? =some fn/\fn.body.isSome=true)/\
  ∀(aB:Fr) E w xs m,bm E args xs->jL E u m->ba aB E h w->CallsDIn (cb none) 0 P f xs.toArray m w fun e dA w'=>∃aw x,e=.returned x/\E.le aw/\jL aw eV (settle dA)/\ba aB aw aa w'
theorem ba.gone {aB:Fr} {E:Env} {h:ah} {w w':World} (s:ba aB E h w) {b:aU} {p:iW} (jy:(h.get b).own=true) (ak:E b=some p) (dr:aB.w.heap.size<=p.bj)
 (aL:w.heap.size<=w'.heap.size) (n9:∀j,j≠p.bj->w'.heap[j]? =w.heap[j]?) (ru:w'.os=w.os) (aE:w'.tape=w.tape) (a8:w'.output=w.output):ba aB E (h.set b .dead) w':=
 s.set jy ak dr aL n9 ru aE a8 (fun _ _ _ e=>by cases e) trivial
theorem JM {P:Program} {k8:u6} (aK:e6 P) (mw:CJ P k8) {aB:Fr} {fn:Func} {tmps:Array Value} {R:Ending->World->Prop}:∀(ai:List V) (ds:List Deferred) (E:Env) (u:Option V) (h:ah) (w:World) (m:FrameMode) (eV:Option V) (aa:ah),
 og k8 ai u h=.go eV aa->mm E ai ds->jL E u m->ba aB E h w->(∀aw dA w',E.le aw->jL aw eV dA->ba aB aw aa w'->LeavesInM (cb none) 0 P fn tmps R [] dA w')->LeavesInM (cb none) 0 P fn tmps R ds m w
 | [],ds,E,u,h,w,m,eV,aa,he,aZ,hu,s,cV=>by simp only [og,tp.go.injEq] at he;obtain ⟨rfl,rfl⟩:=he;simp only [mm] at aZ;subst aZ;exact cV E m w (Env.le.refl E) hu s
 | v::ai,ds,E,u,h,w,m,eV,aa,he,aZ,hu,s,cV=>by
   obtain ⟨d,lT,rfl,vT,vU⟩:=aZ;cases v with
   | func f args=>
     simp only [og] at he;cases ao:k8 f args u h with
     | fail=>rw [ao] at he;cases he
     | go ki J=>
       rw [ao] at he;simp only at he;obtain ⟨aA,cap,aE,ax⟩:=vT;obtain ⟨⟨DT,hM,aj⟩,c'⟩:=mw _ _ _ _ _ _ ao;refine ⟨hu.run,.inr ⟨fun h=>by simp at h,_,cap,f,d.args++cap,aE,?_,fun _ _=>trivial,?_⟩⟩
       . rw [aE];simp only [invoke];exact s7 aK hM aj _ w
       . have e:d.args++cap=(d.args.toList++cap.toList).toArray:=by apply aoH;simp
         rw [e];refine CallsDIn.mono (c' aB E w _ m ax hu s) fun e m1 b4 aq=>?_;obtain ⟨aY,x,rfl,ag,av,aI⟩:=aq;exact JM aK mw ai lT aY ki J b4 (settle m1) eV aa he (vU.mono ag) av aI fun aH m2 b1 cf cd eU=>cV aH m2 b1 (ag.trans cf) cd eU
   | ptr b off=>
     simp only [og] at he;cases al:h.get b<;>rw [al] at he<;>simp only at he<;>try (cases he;done)
     obtain ⟨p,ak,Io⟩:=vT;have aj:=s.at ak;rw [al] at aj;obtain ⟨p',hN,dr,bo⟩:=aj;rw [ak] at hN;cases hN;have l3:=(am1.1 bo).1
     let b4:World:={w with heap:=w.heap.setIfInBounds p.bj (.deferred none)}
     have rz:(Instr.takeDeferred p.bj).run P w=.ok [] b4:=by
      have fp:(getObj p.bj).run P w=.ok (.deferred (some [])) w:=by simp only [getObj,Sem.run,bo]
      have qv:(setObj p.bj (.deferred none)).run P w=.ok () b4:=by simp only [setObj,Sem.run,bo];rfl
      simp only [Instr.takeDeferred,Sem.run_bind,fp,Result.andThen_ok,qv,Sem.run_pure]
     have s1:ba aB E (h.set b .dead) b4:=s.gone (by rw [al];rfl) ak dr (by simp [b4]) (fun j bJ=>by simp only [b4,ank];rw [am7 (fun e=>bJ e.symm)]) rfl rfl rfl;refine ⟨hu.run,.inl ⟨p.bj,b4,by rw [Io],rz,?_⟩⟩;exact JM aK mw ai lT E u _ b4 m eV aa he vU hu s1 cV
   | _=>simp [og] at he
theorem Cq {P:Program} {aB:Fr} {E:Env} {fn:Func} {r:bN} {h:ah} {a:Act} {w:World} (k:RegRel0 E fn.ntmps r a) (s:ba aB E h w) {ai:List V} (bB:(lI P fn.ntmps fn.results.toList).run r h=some ai):
 ∃x,(results fn a.tmps).run P w=.ok x w/\Rel E (oneOf ai) x:=by
 obtain ⟨cS,cf,cd⟩:=KB (P:=P) k s bB;exact ahU cf fn a P w cd
section
variable {C:Ctx}
theorem Yo (ex:iD):hG C.P (sh C ex):=by intro f args h v aa he;trivial
def r7 (aB:Fr) (E:Env) (R:Ending->World->Prop):a7->Prop
 | .val v aa=>∀aw x w',E.le aw->Rel aw v x->ba aB aw aa w'->R (.returned x) w'
 | .cY v aa=>∀aw x w',E.le aw->Rel aw v x->ba aB aw aa w'->R (.panicked (qE x)) w'
 | .fail=>False
theorem r7.up {aB:Fr} {E aw:Env} (h:E.le aw) {R:Ending->World->Prop} {x:a7} (k:r7 aB E R x):r7 aB aw R x:=by
 cases x with
 | val v bo=>exact fun aH a w ad=>k aH a w (h.trans ad)
 | cY v bo=>exact fun aH a w ad=>k aH a w (h.trans ad)
 | fail=>exact k
theorem HK (aK:e6 C.P) {k8:u6} (mw:CJ C.P k8) {aB:Fr} {fn:Func} {E:Env} {r:bN} {u:Option V} {h:ah} {a:Act} {w:World} {m:FrameMode} {R:Ending->World->Prop}
 (k:fU E fn.ntmps r a) (hu:jL E u m) (s:ba aB E h w)
 (ak:r7 aB E R (finish (lI C.P fn.ntmps fn.results.toList) r (og k8 (T.get .bad fs r).list u h))):LeavesInM (cb none) 0 C.P fn a.tmps R a.defers m w:=by
 cases ax:og k8 (T.get .bad fs r).list u h with
 | fail=>rw [ax] at ak;exact ak.elim
 | go eV aa=>
   rw [ax] at ak;refine JM aK mw _ a.defers E u h w m eV aa ax k.defers.list hu s fun aw dA w' ag av aI=>?_;cases eV with
   | some v=>
     obtain ⟨x,ar,rfl⟩:=av;exact ak aw x w' ag ar aI
   | none=>
     simp only [jL] at av;subst av;simp only [finish] at ak;cases bB:(lI C.P fn.ntmps fn.results.toList).run r aa with
     | none=>rw [bB] at ak;exact ak.elim
     | some ai=>
       rw [bB] at ak;obtain ⟨x,cf,cd⟩:=Cq (P:=C.P) (k.mono ag).toRegRel0 aI bB;exact ⟨x,cf,ak aw x w' ag cd aI⟩
theorem OS {res:xH} {u eV:Option V} {x:mV} {aa:ah} (he:DB res u x=.go eV aa):∃e r ai,x=.ok e r aa/\(e=.normal\/e=.ret)/\T.get .bad fs r=.bad/\res.run r aa=some ai/\eV=u:=by
 unfold DB at he;cases x with
 | fail=>cases he
 | cY _ _ _=>cases he
 | ok e r h=>
   have main:(bif (T.get .bad fs r).Js then (match res.run r h with
    | some _=>tp.go u h
    | none=>.fail) else .fail)=.go eV aa->(e=.normal\/e=.ret)->∃dI bI ai,mV.ok e r h=.ok dI bI aa/\(dI=.normal\/dI=.ret)/\T.get .bad fs bI=.bad/\res.run bI aa=some ai/\eV=u:=by
    intro he iu;cases aj:(T.get .bad fs r).Js with
    | false=>rw [aj] at he;cases he
    | true=>
      rw [aj] at he;simp only [am4] at he;have abx:T.get .bad fs r=.bad:=by
       cases al:T.get .bad fs r<;>rw [al] at aj<;>first
        | rfl
        | cases aj
      cases bB:res.run r h with
      | none=>rw [bB] at he;cases he
      | some ai=>
        rw [bB] at he;simp only [tp.go.injEq] at he;obtain ⟨rfl,rfl⟩:=he;exact ⟨e,r,ai,rfl,iu,abx,bB,rfl⟩
   cases e with
   | normal=>exact main he (.inl rfl)
   | ret=>exact main he (.inr rfl)
   | exit id=>cases he
theorem ai4 {c:Code} {s:GL} (h:FI c=some s):∃id dc c4 args types,c=.seq (.region id #[dc,c4] false) s.rest/\dc.dst=some s.d/\dc.op=.call ⟨.builtin .recover,args,types⟩/\dc.guard=none/\c4.dst=some s.e/\c4.op=.assign s.x/\c4.guard=none:=by
 unfold FI at h
 split at h
 case h_2=>cases h
 rename_i id ops rest
 split at h
 case h_2=>cases h
 rename_i dc c4 ax
 split at h
 case h_2=>cases h
 rename_i d args types e x J ad aD bn b0 ep;cases h;have acv:ops=#[dc,c4]:=by apply aoH;simp [ax]
 subst acv;exact ⟨id,dc,c4,_,_,rfl,J,ad,aD,bn,b0,ep⟩
theorem Zv (dE:C.P.follows .mixedOrders=true) (aK:e6 C.P) {ex:iD} (hex:tk C.P ex):CJ C.P (DA C.P ex):=by
 intro f args u h eV aa he;unfold DA at he;cases aA:C.P.funcs[f]? with
 | none=>rw [aA] at he;cases he
 | some fn=>
   rw [aA] at he;simp only at he;cases aj:fn.body with
   | none=>rw [aj] at he;cases he
   | some c=>
     rw [aj] at he;simp only at he;refine ⟨⟨fn,rfl,by rw [aj];rfl⟩,fun aB E w xs m ax hu s=>?_⟩;cases gz:Nat.ble fn.ntmps top with
     | false=>rw [gz] at he;cases he
     | true=>
       rw [gz] at he;simp only [am4] at he;rw [ann] at gz;unfold OT at he;cases j6:Nat.ble args.length fn.ntmps with
       | false=>rw [j6] at he;cases he
       | true=>
         rw [j6] at he;simp only [am4] at he;rw [ann] at j6;have k:=Pd ax j6 gz;cases aJ:FI c with
         | none=>
           rw [aJ] at he;simp only at he;obtain ⟨e,r,ai,ar,iu,qf,bB,rfl⟩:=OS he;refine CallsDIn.mono (callsDIn_of_wp (R:=fun e w'=>∃aw x,e=.returned x/\E.le aw/\ba aB aw aa w') aA aj trivial ?_) fun dI dA w' aq=>?_
           . refine (hex fn.ntmps c none aB _ h (.inl rfl) E _ w k s _ ?_).wp;rw [ar];intro aw bt w' ag av aI;have aZ:bt.defers=[]:=by have:=av.defers;rw [qf] at this;exact this
             obtain ⟨x,cf,cd⟩:=Cq (P:=C.P) av.toRegRel0 aI bB;rcases iu with rfl | rfl<;>exact ⟨aZ,x,cf,aw,x,rfl,ag,aI⟩
           . obtain ⟨rfl,aw,x,rfl,ag,aI⟩:=aq;exact ⟨aw,x,rfl,ag,by rw [hu.settle];exact hu.mono ag,aI⟩
         | some dd=>
           rw [aJ] at he;simp only at he;cases hW:(fG fn.ntmps (some dd.d)&&fG fn.ntmps (some dd.e)) with
           | false=>rw [hW] at he;cases he
           | true=>
             rw [hW] at he;simp only [am4] at he;simp only [amX] at hW;obtain ⟨e,r,ai,ar,iu,qf,bB,rfl⟩:=OS he;obtain ⟨id,dc,c4,Tv,rt,rfl,g1,g2,g3,g4,g5,g6⟩:=ai4 aJ;refine callsDIn_of_wpSIn aA aj trivial fun vw cs Im=>wpSIn_seq (wpSIn_region ?_)
             obtain ⟨X,dL,p6,gZ,dA,n1,acO⟩:∃X,Rel E (u.getD .nilIface) X/\∃p6,(match recoverD (vw::cs) with
              | some (v,Y')=>v=X/\Y'=p6
              | none=>X=.nilIface/\p6=vw::cs)/\∃dA,p6={vw with mode:=dA}::cs/\settle dA=.returning:=by
              cases u with
              | none=>
                simp only [jL] at hu;subst hu;refine ⟨.nilIface,rfl,vw::cs,?_,.returning,?_,rfl⟩
                . simp only [recoverD,Im];exact ⟨trivial,trivial⟩
                . rw [<-Im]
              | some v=>
                obtain ⟨x,ar,rfl⟩:=hu;refine ⟨x,ar,{vw with mode:=.panicking [{v:=x,recovered:=true}]}::cs,?_,.panicking [{v:=x,recovered:=true}],rfl,rfl⟩;simp only [recoverD,Im];exact ⟨trivial,trivial⟩
             have bY:=k.put hW.1 dL;have b_:=bY.put hW.2 (d' bY.toRegRel0 dd.x);rw [<-g1] at b_;rw [<-g4] at b_
             have yC:=(hex fn.ntmps dd.rest none aB _ h (.inl rfl) E _ w b_ s (fun dI bt w'=>bodyPostS C.P fn vw cs (fun e dA w'=>∃aw x,e=.returned x/\E.le aw/\jL aw none (settle dA)/\ba aB aw aa w') dI bt p6 w') (by
              have:TF dd u (nP 0 args .e)=(gh c4.dst).run ((gh dc.dst).run (nP 0 args .e) (u.getD .nilIface)) ((bZ dd.x).run ((gh dc.dst).run (nP 0 args .e) (u.getD .nilIface))):=by rw [g1,g4];rfl
              rw [<-this,ar];intro aw bt w' ag av aI;have aZ:bt.defers=[]:=by have:=av.defers;rw [qf] at this;exact this
              obtain ⟨x,cf,cd⟩:=Cq (P:=C.P) av.toRegRel0 aI bB
              rcases iu with rfl | rfl<;>exact ⟨aZ,dA,n1,x,cf,aw,x,rfl,ag,acO,aI⟩)).wp
             have Q0:=wpSIn_of_wpIn (F:=cb none) rfl yC;have qw:∀y,Region.wanted dc y=true:=fun y=>by simp [Region.wanted,g3]
             have tY:∀y,Region.wanted c4 y=true:=fun y=>by simp [Region.wanted,g6]
             have acM:∀(ρ:Operand->Value),(execOp ρ dc).run C.P w=.ok .recover w:=fun ρ=>by obtain ⟨dst,op,type,pos,after,guard⟩:=dc;simp only at g2;subst g2;rfl
             have Bl:∀(ρ:Operand->Value),(execOp ρ c4).run C.P w=.ok (.value (ρ dd.x)) w:=fun ρ=>by obtain ⟨dst,op,type,pos,after,guard⟩:=c4;simp only at g5;subst g5;rfl
             have cy:(#[dc,c4]:Array Oper).size=2:=rfl;rw [cy];simp only [List.range_succ,List.range_zero,anh,ang,wpOpsSIn];have dJ:(#[dc,c4]:Array Oper)[0]? =some dc:=rfl;have an:(#[dc,c4]:Array Oper)[1]? =some c4:=rfl;rw [dJ];simp only [qw,anz,acM];refine ⟨fun _ _=>trivial,?_⟩;cases QO:recoverD (vw::cs) with
             | none=>
               rw [QO] at gZ;obtain ⟨abn,qe⟩:=gZ;subst abn qe;simp only [an,tY,anz,Bl];exact ⟨fun _ _=>trivial,Q0⟩
             | some K2=>
               obtain ⟨v,alG⟩:=K2;rw [QO] at gZ;obtain ⟨rfl,rfl⟩:=gZ;simp only [an,tY,anz,Bl];exact ⟨fun _ _=>trivial,Q0⟩
end
end
theorem Uf:∀(xs:List V) (x:V),F1 (xs++[x])=some (xs,x)
 | [],x=>rfl
 | [y],x=>rfl
 | y::z::xs,x=>by have:=Uf (z::xs) x;simp only [ang] at this ⊢;simp only [F1,this]
theorem RegRel0.putAt {E:Env} {az:Nat} {r:bN} {t:Array Value} {ds:List Deferred} (k:RegRel0 E az r ⟨t,ds⟩) {d:Nat} (aZ:d<az) (aE:d<=top) {v:V} {x:Value} (bB:Rel E v x):
 RegRel0 E az (T.put .bad v (aC d) r) ⟨t.setIfInBounds d x,ds⟩:=by
 refine ⟨by simp only [Array.size_setIfInBounds];exact k.size,fun j bJ=>?_⟩;rw [T.iH];have cy:=k.size;simp only at cy;by_cases h:d=j
 . subst h;rw [anb rfl];simp [anq,cy,aZ,bB]
 . rw [am7 (fun e=>h (lF e))];have:=k.af j bJ;simpa [anq,ank,h] using this
theorem Tp {E:Env} {az:Nat} {ds:List Deferred}:∀(bD:List Nat) (ai:List V) (xs:List Value) (r:bN) (t:Array Value),uK az bD=true->bm E ai xs->RegRel0 E az r ⟨t,ds⟩->
 RegRel0 E az (w5 bD ai r) ⟨(bD.zip xs).foldl (fun t (p:Nat × Value)=>t.setIfInBounds p.1 p.2) t,ds⟩
 | [],ai,xs,r,t,_,_,k=>by cases ai<;>exact k
 | p::bD,[],xs,r,t,_,ax,k=>by simp only [bm] at ax;subst ax;exact k
 | p::bD,v::ai,xs,r,t,ak,ax,k=>by obtain ⟨y,cS,rfl,bc,ax⟩:=ax;simp only [uK,anX,amX,anF,ann] at ak;simp only [w5,List.zip_cons_cons,List.foldl_cons];exact Tp bD ai cS _ _ ak.2 ax (k.putAt ak.1.1 ak.1.2 bc)
theorem aiJ {E:Env} {az:Nat} {ds:List Deferred} {bD:Array Nat} {ai:List V} {xs:List Value} {r:bN} {t:Array Value} (ak:uK az bD.toList=true) (ax:bm E ai xs) (k:RegRel0 E az r ⟨t,ds⟩):
 RegRel0 E az (w5 bD.toList ai r) ⟨(bD.zip xs.toArray).foldl (fun t (p:Nat × Value)=>t.setIfInBounds p.1 p.2) t,ds⟩:=by
 rw [<-Array.foldl_toList,Array.toList_zip];exact Tp bD.toList ai xs r t ak ax k
theorem RegRel0.Wh {E:Env} {az:Nat} {r:bN} {a:Act} (k:RegRel0 E az r a) (v:V):RegRel0 E az (T.put .bad v fs r) a:=
 ⟨k.size,fun t aE=>by rw [T.iH,am7 (fun e=>w0 aE e.symm)];exact k.af t aE⟩
section
variable {C:Ctx}
theorem aam (aK:e6 C.P) (dE:C.P.follows .mixedOrders=true) {ex:iD} (hex:tk C.P ex) {f:FuncId} {args:List V} {h:ah} {aB:Fr} {E:Env} {w:World} {xs:List Value} (ax:bm E args xs) (s:ba aB E h w) {R:Ending->World->Prop}
 (ak:r7 aB E R ((HN C.P f).run ex args h)):(∃fn,C.P.funcs[f]? =some fn/\fn.body.isSome=true)/\Calls C.P f xs.toArray w R:=by
 unfold HN at ak;cases aA:C.P.funcs[f]? with
 | none=>rw [aA] at ak;exact ak.elim
 | some fn=>
   rw [aA] at ak;simp only at ak;cases aj:fn.body with
   | none=>rw [aj] at ak;exact ak.elim
   | some c=>
     rw [aj] at ak;simp only at ak;refine ⟨⟨fn,rfl,by rw [aj];rfl⟩,?_⟩;cases gz:Nat.ble fn.ntmps top with
     | false=>rw [gz] at ak;exact ak.elim
     | true=>
       rw [gz] at ak;simp only [am4] at ak;rw [ann] at gz;unfold PH at ak;cases j6:Nat.ble args.length fn.ntmps with
       | false=>rw [j6] at ak;exact ak.elim
       | true=>
         rw [j6] at ak;simp only [am4] at ak;rw [ann] at j6;have k:=Pd ax j6 gz;have mw:=Zv (C:=C) dE aK hex;refine si.1 (callsIn_of_wp_marks (F:=cb none) (n:=0) aA aj trivial ?_);refine (hex fn.ntmps c none aB _ h (.inl rfl) E _ w k s _ ?_).wp;cases aJ:ex fn.ntmps c (nP 0 args .e) h with
         | fail=>rw [aJ] at ak;exact ak
         | cY v r J=>
           rw [aJ] at ak;intro aw bt w' x ag av aI bU;exact HK (u:=some v) aK mw av ⟨x,aI,rfl⟩ bU (r7.up ag ak)
         | ok e r J=>
           rw [aJ] at ak;intro aw bt w' ag av aI;have main:r7 aB E R (finish (lI C.P fn.ntmps fn.results.toList) r (og (DA C.P ex) (T.get .bad fs r).list none J))->LeavesInM (cb none) 0 C.P fn bt.tmps R bt.defers .returning w':=by intro ak;exact HK (u:=none) aK mw av rfl aI (r7.up ag ak)
           cases e with
           | normal=>exact main ak
           | ret=>exact main ak
           | exit id=>exact ak.elim
theorem DU (aK:e6 C.P) (dE:C.P.follows .mixedOrders=true) (hy:p0 C) {ex:iD} (hex:tk C.P ex) {f:FuncId} {args:List V} {h:ah} {aB:Fr} {E:Env} {w:World} {xs:List Value} (ax:bm E args xs) (s:ba aB E h w) {R:Ending->World->Prop}
 (ak:r7 aB E R ((x8 C f).run ex args h)):(∃fn,C.P.funcs[f]? =some fn/\fn.body.isSome=true)/\Calls C.P f xs.toArray w R:=by
 unfold x8 at ak;cases aq:C.Kr f with
 | none=>rw [aq] at ak;exact aam aK dE hex ax s ak
 | some p=>
   rw [aq] at ak;simp only at ak;cases aJ:p.run args h with
   | fail=>rw [aJ] at ak;exact ak.elim
   | cY _ _=>rw [aJ] at ak;exact ak.elim
   | val v aa=>
     rw [aJ] at ak;obtain ⟨J,ad⟩:=hy.1 f p args h v aa aq aJ;refine ⟨J,(ad aB E w xs ax s).mono fun e w' aq=>?_⟩;obtain ⟨aw,x,rfl,ag,av,aI⟩:=aq;exact ak aw x w' ag av aI
theorem ba.loop {P:Program} {aB:Fr} {E:Env} {h:ah} {w:World} (s:ba aB E h w) {b:aU} {l gd:Ab} {p:iW} {o cn:Loop} (al:h.get b=.gq l) (ak:E b=some p) (dr:aB.w.heap.size<=p.bj) (bo:w.heap[p.bj]? =some (.loop o)) (aJ:vi E gd cn):
 (setObj p.bj (.loop cn)).run P w=.ok () {w with heap:=w.heap.setIfInBounds p.bj (.loop cn)}/\ba aB E (h.set b (.gq gd)) {w with heap:=w.heap.setIfInBounds p.bj (.loop cn)}:=by
 have l3:=(am1.1 bo).1;refine ⟨by simp only [setObj,Sem.run,bo],s.set (p:=p) (by rw [al];rfl) ak dr (by simp) (fun j bJ=>?_) rfl rfl rfl (fun _ _ _ e=>by cases e) ?_⟩
 . simp only [ank];rw [am7 (fun e=>bJ e.symm)]
 . exact ⟨p,cn,ak,dr,by simp [l3],aJ⟩
theorem run_getLoop {P:Program} {r:Nat} {w:World} {o:Loop} (bo:w.heap[r]? =some (.loop o)):(Instr.getLoop r).run P w=.ok o w:=by
 have:(getObj r).run P w=.ok (.loop o) w:=by simp only [getObj,Sem.run,bo]
 simp only [Instr.getLoop,Sem.run_bind,this,Result.andThen_ok,Sem.run_pure]
theorem ajo {aB:Fr} {E:Env} {h aa:ah} {w:World} {b:aU} {p:iW} {e:ei} {v:V} {P:Program} {R:Ending->World->Prop} {a:Act} (s:ba aB E h w) (ak:E b=some p) (he:Cs b e h=.val v aa)
 (cV:∀x w',Rel E v x->ba aB E aa w'->R (.returned x) w'):roundPost P p.bj R (toExit e) a w:=by
 unfold Cs at he;have aj:=s.at ak;cases al:h.get b<;>rw [al] at he aj<;>simp only at he<;>try (cases he;done)
 rename_i l;obtain ⟨p',o,hN,dr,bo,aJ⟩:=aj;rw [ak] at hN;cases hN;have su:=run_getLoop (P:=P) bo;obtain ⟨bT,di,bX,dN,dC,gI,hq,eg⟩:=aJ;cases e with
 | normal=>
   simp only [a7.val.injEq] at he;obtain ⟨rfl,rfl⟩:=he;obtain ⟨J,ad⟩:=s.loop (P:=P) (gd:=⟨0,none,l.d,l.az,l.r,l.bD,l.assign,l.body⟩) (cn:={o with state:=.ready,pending:=none}) al ak dr bo ⟨rfl,rfl,bX,dN,dC,gI,hq,eg⟩;refine ⟨.bool true,_,?_,cV _ _ rfl ad⟩;simp only [Instr.endRound,Sem.run_bind,su,Result.andThen_ok,Option.isNone_none,anz,J,Sem.run_pure]
 | ret=>
   simp only [a7.val.injEq] at he;obtain ⟨rfl,rfl⟩:=he;obtain ⟨J,ad⟩:=s.loop (P:=P) (gd:=⟨2,some .ret,l.d,l.az,l.r,l.bD,l.assign,l.body⟩) (cn:={o with state:=.done,pending:=some .ret}) al ak dr bo ⟨rfl,rfl,bX,dN,dC,gI,hq,eg⟩;refine ⟨.bool false,_,?_,cV _ _ rfl ad⟩;simp only [Instr.endRound,Sem.run_bind,su,Result.andThen_ok,Option.isNone_some,anm,anw,J,Sem.run_pure]
 | exit id=>
   simp only [a7.val.injEq] at he;obtain ⟨rfl,rfl⟩:=he;obtain ⟨J,ad⟩:=s.loop (P:=P) (gd:=⟨2,some (.exit id),l.d,l.az,l.r,l.bD,l.assign,l.body⟩) (cn:={o with state:=.done,pending:=some (.exit id)}) al ak dr bo ⟨rfl,rfl,bX,dN,dC,gI,hq,eg⟩;refine ⟨.bool false,_,?_,cV _ _ rfl ad⟩;simp only [Instr.endRound,Sem.run_bind,su,Result.andThen_ok,Option.isNone_some,anm,anw,J,Sem.run_pure]
theorem ajp {P:Program} {ex:iD} (hex:tk P ex) {aB:Fr} {E:Env} {h aa:ah} {w:World} {args:List V} {xs:List Value} {b:aU} {p:iW} {v:V} (he:Cr ex args b h=.val v aa) (ax:bm E args xs) (s:ba aB E h w) (ak:E b=some p):
 ∃f tmps assign body,(Instr.yield p.bj xs.toArray).run P w=.ok (.round p.bj f tmps assign body) w/\
  RoundIn (cb none) 0 P p.bj f tmps assign body w fun e w'=>∃aw x,e=.returned x/\E.le aw/\Rel aw v x/\ba aB aw aa w':=by
 unfold Cr at he;have aj:=s.at ak;cases al:h.get b<;>rw [al] at he aj<;>simp only at he<;>try (cases he;done)
 rename_i l;obtain ⟨p',o,hN,dr,bo,aJ⟩:=aj;rw [ak] at hN;cases hN;obtain ⟨bT,di,bX,dN,dC,gI,hq,eg⟩:=aJ;obtain ⟨ao,he⟩:=jN he;simp only [amX,anA] at ao;obtain ⟨bW,cw,c3,gV⟩:=ao;have hlen:=ax.length;have acA:o.params.size=xs.length:=by rw [<-Array.length_toList,bX,hlen,bW]
 refine ⟨o.fn,(o.params.zip xs.toArray).foldl (fun tmps (t,a)=>tmps.setIfInBounds t a) o.tmps,o.assign,o.body,?_,?_⟩
 . simp only [Instr.yield,Sem.run_bind,run_getLoop bo,Result.andThen_ok];rw [am7 (by simp [acA])];rfl
 . rw [dN,dC];refine roundIn_of_wpIn (F:=cb none) trivial ?_;have cz:RegRel0 E l.az l.r ⟨o.tmps,[]⟩:=⟨gI,hq⟩;rw [<-bX] at cw he;have bY:=(aiJ cw ax cz).Wh .bad;have k:fU E l.az (T.put .bad .bad fs (w5 o.params.toList args l.r)) ⟨(o.params.zip xs.toArray).foldl (fun t (p:Nat × Value)=>t.setIfInBounds p.1 p.2) o.tmps,[]⟩:=⟨bY,by rw [T.iH,anb rfl];simp [lO]⟩
   have ac6:=hex l.az l.assign (some p.bj) aB _ h (.inr c3) E _ w k s (Exit.then (fun vn xm=>∃UY,(Instr.beginRound p.bj).run P xm=.ok () UY/\
    l.body.wpIn (cb (some p.bj)) 0 P (roundPost P p.bj fun e w'=>∃aw x,e=.returned x/\E.le aw/\Rel aw v x/\ba aB aw aa w') vn UY) (fun _ _ _=>False))
   refine (ac6 ?_).wp;cases ar:ex l.az l.assign (T.put .bad .bad fs (w5 o.params.toList args l.r)) h with
   | fail=>rw [ar] at he;cases he
   | cY _ _ _=>rw [ar] at he;cases he
   | ok e aiP J=>
     rw [ar] at he;cases e<;>simp only at he<;>try (cases he;done)
     intro aY bR b4 ag av aI;unfold FO at he;have lo:=ag _ _ ak;have lb:=aI.at lo;cases Qg:J.get b<;>rw [Qg] at he lb<;>simp only at he<;>try (cases he;done)
     rename_i gC;obtain ⟨cf,dc,QH,vL,v7,wq⟩:=lb;rw [lo] at QH;cases QH;obtain ⟨c2,he⟩:=jN he;rw [anA] at c2;obtain ⟨t1,t2,t3,t4,t5,t6,t7,t8⟩:=wq;obtain ⟨g1,g2⟩:=aI.loop (P:=P) (gd:=⟨1,gC.h0,gC.d,gC.az,gC.r,gC.bD,gC.assign,gC.body⟩) (cn:={dc with state:=.busy}) Qg lo vL v7 ⟨rfl,t2,t3,t4,t5,t6,t7,t8⟩;refine ⟨{b4 with heap:=b4.heap.setIfInBounds p.bj (.loop {dc with state:=.busy})},?_,?_⟩
     . have I5:dc.state=.ready:=by rw [t1,c2];rfl
       simp only [Instr.beginRound,Sem.run_bind,run_getLoop v7,Result.andThen_ok,g1,I5,Sem.run_pure]
     . refine (hex l.az l.body (some p.bj) aB _ _ (.inr gV) aY _ _ av g2 _ ?_).wp;cases fH:ex l.az l.body aiP (J.set b (.gq ⟨1,gC.h0,gC.d,gC.az,gC.r,gC.bD,gC.assign,gC.body⟩)) with
       | fail=>rw [fH] at he;cases he
       | cY _ _ _=>rw [fH] at he;cases he
       | ok aN amy ad=>
         rw [fH] at he;simp only at he;intro aH a2 b1 c9 z2 z3;exact ajo z3 (c9 _ _ lo) he fun x w' fe fu=>⟨aH,x,rfl,ag.trans c9,fe,fu⟩
theorem Yp (dE:C.P.follows .mixedOrders=true) (aK:e6 C.P) (hy:p0 C) {ex:iD} (hex:tk C.P ex):ht C.P (sh C ex) where
 fn:=by
  intro aB f args h v aa aA he E w xs ax s;unfold sh at he;rw [h7,am7 aA] at he;cases ar:C.ext f with
  | some p=>
    rw [ar] at he;simp only at he;cases aJ:p.run args h with
    | fail=>rw [aJ] at he;cases he
    | cY _ _=>rw [aJ] at he;cases he
    | val v1 J=>
      rw [aJ] at he;simp only [a7.J7,a7.val.injEq] at he;obtain ⟨rfl,rfl⟩:=he;exact .inr (hy.2 f p args h _ _ ar aJ aB E w xs ax s)
  | none=>
  rw [ar] at he;simp only at he;exact .inl (DU aK dE hy hex ax s (by rw [he];exact fun aw x w' ag av aI=>⟨aw,x,rfl,ag,av,aI⟩))
 cY:=by
  intro aB f args h v aa aA he E w xs ax s;unfold sh at he;rw [h7,am7 aA] at he;cases ar:C.ext f with
  | some p=>
    rw [ar] at he;simp only at he;cases aJ:p.run args h<;>rw [aJ] at he<;>cases he
  | none=>
  rw [ar] at he;simp only at he;exact DU aK dE hy hex ax s (by rw [he];exact fun aw x w' ag av aI=>⟨aw,x,rfl,ag,av,aI⟩)
 U1:=by intro aB args b h v aa he E w xs p ax s ak;unfold sh at he;rw [h7,anb rfl] at he;unfold KK at he;rw [Uf] at he;exact ajp hex he ax s ak
 U2:=by
  intro args h v aa he;unfold sh at he;rw [h7,anb rfl] at he;have an:∀b e h,Cs b e h≠.cY v aa:=by
   intro b e h he;unfold Cs at he
   split at he
   . cases e<;>cases he
   . cases he
  have aN:∀az c b r h,FO ex az c b r h≠.cY v aa:=by
   intro az c b r h he;unfold FO at he
   split at he
   case h_2=>cases he
   rename_i l ax;cases ao:Nat.beq l.st 0 with
   | false=>rw [ao] at he;cases he
   | true=>
     rw [ao] at he;simp only [am4] at he
     split at he
     . exact an _ _ _ he
     . cases he
  have cv:∀xs b h,Cr ex xs b h≠.cY v aa:=by
   intro xs b h he;unfold Cr at he
   split at he
   case h_2=>cases he
   rename_i l ax;cases ao:(Nat.beq xs.length l.bD.length&&(uK l.az l.bD&&(noMark l.assign&&noMark l.body))) with
   | false=>rw [ao] at he;cases he
   | true=>
     rw [ao] at he;simp only [am4] at he
     split at he
     case h_2=>cases he
     rename_i e r J _;cases e<;>simp only at he<;>try (cases he;done)
     exact aN _ _ _ _ _ he
  unfold KK at he
  split at he
  case h_2=>cases he
  split at he
  case h_2=>cases he
  exact cv _ _ _ he
end
section
variable {C:Ctx}
theorem Z2 {P:Program} {e:ei} {Q:Exit->Act->World->Prop} {a:Act} {w:World} (h:Q (toExit e) a w):(HI e).wpIn (cb none) 0 P Q a w:=by
 cases e with
 | normal=>exact wpIn_skip h
 | exit id=>exact wpIn_exit h
 | ret=>exact wpIn_ret h
theorem aiX (dE:C.P.follows .mixedOrders=true) (aK:e6 C.P) (hy:p0 C) {ex:iD} (hex:tk C.P ex) {f:Operand} {bD:Array Tmp} {assign body:Code} {az:Nat} {aB:Fr} {E:Env} {r:bN} {h:ah} {a:Act} {w:World} {Q:Exit->Act->World->Prop}
 (k:fU E az r a) (s:ba aB E h w) (ak:xF aB E az Q (Kw (fun g args h=>(x8 C g).run ex args h) (bZ f) bD.toList az assign body r h)):(Code.rangeFunc f bD assign body).wpIn (cb none) 0 C.P Q a w:=by
 unfold Kw at ak;have aA:=d' k.toRegRel0 f;generalize (bZ f).run r=xi at ak aA;cases xi<;>simp only at ak<;>try (exact ak.elim)
 rename_i g cs;rw [h7] at ak;by_cases al:g=dv
 . rw [anb al] at ak;exact ak.elim
 . rw [am7 al] at ak;simp only [Rel] at aA;rcases aA with ⟨_,e',dL,ax⟩ | ⟨IA,_⟩
   case inr=>exact absurd IA al
   refine wpIn_rangeFunc fun fn _=>?_;have f0:=s.fresh h.next (am6 _)
   obtain ⟨aY,vM⟩:∃aY,aY=E.put (aC h.next) ⟨w.heap.size,0,0⟩:=⟨_,rfl⟩;obtain ⟨b4,qw⟩:∃b4:World,b4={w with heap:=w.heap.push (.deferred (some []))}:=⟨_,rfl⟩;have Bj:aY (aC h.next)=some ⟨w.heap.size,0,0⟩:=by rw [vM];unfold Env.put;rw [anb rfl]
   have s1:ba aB aY (h.new .gj) b4:=by rw [vM,qw];refine s.alloc 0 ⟨⟨w.heap.size,0,0⟩,by unfold Env.put;rw [anb rfl],s.frame.size,by simp⟩
   have pz:E.le aY:=by rw [vM];exact Env.nB f0
   have wy:b4.heap.size=w.heap.size+1:=by rw [qw];simp
   obtain ⟨o,a8⟩:∃o:Loop,o={state:=.ready,pending:=none,fn,tmps:=a.tmps,params:=bD,assign,body,defers:=w.heap.size}:=⟨_,rfl⟩;obtain ⟨aH,sn⟩:∃aH,aH=aY.put (aC (h.next+1)) ⟨b4.heap.size,0,0⟩:=⟨_,rfl⟩;obtain ⟨b1,tY⟩:∃b1:World,b1={b4 with heap:=b4.heap.push (.loop o)}:=⟨_,rfl⟩;have f1:aY (aC (h.next+1))=none:=s1.fresh (h.next+1) (am6 _);have mI:aY.le aH:=by rw [sn];exact Env.nB f1
   have Bk:aH (aC (h.next+1))=some ⟨b4.heap.size,0,0⟩:=by rw [sn];unfold Env.put;rw [anb rfl]
   have gq:vi aH ⟨0,none,aC h.next,az,r,bD.toList,assign,body⟩ o:=by subst a8;exact ⟨rfl,rfl,rfl,rfl,rfl,k.size,fun t aE=>Rel.mono (pz.trans mI) _ _ (k.af t aE),_,mI _ _ Bj,rfl⟩
   have s2:ba aB aH ((h.new .gj).new (.gq ⟨0,none,aC h.next,az,r,bD.toList,assign,body⟩)) b1:=by rw [sn,tY];refine s1.alloc 0 ⟨⟨b4.heap.size,0,0⟩,o,by show aY.put (aC (h.next+1)) _ (aC (h.next+1))=_;unfold Env.put;rw [anb rfl],by show aB.w.heap.size<=b4.heap.size;rw [wy];have:=s.frame.size;omega,by simp,?_⟩;have:=gq;rw [sn] at this;exact this
   obtain ⟨ix,qm⟩:∃ix,ix=b4.heap.size:=⟨_,rfl⟩;have bc:Rel aH (.func dv [.ptr (aC (h.next+1)) 0]) (.func (.yield ix) #[] #[]):=by simp only [Rel];exact .inr ⟨trivial,_,_,rfl,Bk,by rw [qm]⟩
   have qd:bm aH (.func dv [.ptr (aC (h.next+1)) 0]::cs) (.func (.yield ix) #[] #[]::e'.toList):=by simp only [bm];exact ⟨_,_,rfl,bc,bm.mono (pz.trans mI) _ _ ax⟩
   have c':=DU (C:=C) aK dE hy hex (f:=g) qd s2 (R:=rangePost (cb none) 0 C.P ix Q {a with defers:=[{target:=.collected w.heap.size,args:=#[]}]++a.defers});cases aJ:(x8 C g).run ex (.func dv [.ptr (aC (h.next+1)) 0]::cs) ((h.new .gj).new (.gq ⟨0,none,aC h.next,az,r,bD.toList,assign,body⟩)) with
   | fail=>rw [aJ] at ak;exact ak.elim
   | cY _ _=>rw [aJ] at ak;exact ak.elim
   | val v aa=>
     rw [aJ] at ak c';simp only at ak;obtain ⟨⟨DT,hM,aj⟩,ao⟩:=c' (by
      intro aw x w' ag av aI;simp only [rangePost];unfold Tw at ak;have kv:=ag _ _ Bk;have aj:=aI.at kv;cases su:aa.get (aC (h.next+1))<;>rw [su] at ak aj<;>simp only at ak<;>try (exact ak.elim)
      rename_i l;obtain ⟨p',cn,hN,dr,bo,IK⟩:=aj;rw [kv] at hN;cases hN;obtain ⟨t1,t2,t3,t4,t5,t6,t7,t8⟩:=IK;rw [h7] at ak;by_cases c2:l.st=1
      . rw [anb c2] at ak;exact ak.elim
      . rw [am7 c2] at ak;simp only at bo;rw [<-qm] at bo;have IS:(cn.state == LoopState.busy)=false:=by
         rw [t1]
         match l0:l.st with
         | 0=>rfl
         | 1=>exact absurd l0 c2
         | n+2=>rfl
        have l3:=(am1.1 bo).1
        let jZ:World:={w' with heap:=w'.heap.setIfInBounds ix (.loop {cn with state:=.exhausted})}
        have gy:(Instr.endLoop ix).run C.P w'=.ok cn.pending jZ:=by
         have qv:(setObj ix (.loop {cn with state:=.exhausted})).run C.P w'=.ok () jZ:=by simp only [setObj,Sem.run,bo];rfl
         simp only [Instr.endLoop,Sem.run_bind,run_getLoop bo,Result.andThen_ok,IS,anm,anw,qv,Sem.run_pure]
        have zu:ba aB aw (aa.set (aC (h.next+1)) .dead) jZ:=by refine aI.gone (p:=⟨b4.heap.size,0,0⟩) (by rw [su];rfl) kv dr (by simp [jZ]) (fun j bJ=>?_) rfl rfl rfl;simp only at bJ;simp only [jZ,ank];rw [am7 (fun e=>bJ (by rw [<-e,qm]))]
        have e7:fU aw az (T.put .bad (.tuple (.ptr (aC h.next) 0::(T.get .bad fs r).list)) fs r) {a with defers:=[{target:=.collected w.heap.size,args:=#[]}]++a.defers}:=by
         refine ⟨⟨k.size,fun t aE=>?_⟩,?_⟩
         . rw [T.iH,am7 (fun e=>w0 aE e.symm)];exact Rel.mono (pz.trans (mI.trans ag)) _ _ (k.af t aE)
         . rw [T.iH,anb rfl];simp only [lO,mm,ang,anh];exact ⟨_,_,rfl,⟨_,ag _ _ (mI _ _ Bj),rfl⟩,(k.defers.mono (pz.trans (mI.trans ag))).list⟩
        refine ⟨cn.pending,jZ,gy,?_⟩;rw [t2];cases lp:l.h0 with
        | none=>
          rw [lp] at ak;exact ak aw _ jZ (pz.trans (mI.trans ag)) e7 zu
        | some e=>
          rw [lp] at ak;exact Z2 (ak aw _ jZ (pz.trans (mI.trans ag)) e7 zu))
     refine ⟨ix,[{target:=.collected w.heap.size,args:=#[]}],b1,{target:=.fn (.func g) e',args:=#[]++#[.func (.yield ix) #[] #[]]},b1,g,_,b1,?_,?_,fun _ _=>trivial,?_,fun h=>by simp at h,si.2 ao⟩
     . subst a8 tY qw;have he:=run_enterLoop_outer (P:=C.P) (w:=w) fn a.tmps bD assign body;rw [World.alloc,World.alloc] at he;simp only [Array.size_push] at qm ⊢;rw [qm];exact he
     . simp only [resolve,dL,Deferred.ofValue,Sem.run_pure];simp [Act.eval]
     . simp only [invoke];have e:(#[]++#[Value.func (.yield ix) #[] #[]]:Array Value)++e'=(Value.func (.yield ix) #[] #[]::e'.toList).toArray:=by apply aoH;simp
       rw [e];exact s7 aK hM aj _ b1
theorem zA {P:Program} {b:Frame} {a:Act} {k:List Item} {cs:List Frame} {w:World} {c:Code}:
 step P (lone (b.atR a (.code (.scope c)::k)) cs w)=.next (lone (b.atR a (.code c::.inScope c::k)) cs w):=
 step_lone_go (by simp [stepG,stepG.exec,Frame.atR])
theorem aj' {P:Program} {b:Frame} {a:Act} {k:List Item} {cs:List Frame} {w:World} {c:Code}:
 step P (lone (b.atR a (.inScope c::k)) cs w)=.next (lone (b.atR a k) cs w):=
 step_lone_go (by simp [stepG,stepG.exec,Frame.atR])
theorem T6 {P:Program} {rd:Option Nat} {c:Code} {Q:Exit->Act->World->Prop} {a:Act} {w:World} (h:c.wpIn (cb rd) 0 P (Exit.noGoto Q) a w):(Code.scope c).wpIn (cb rd) 0 P Q a w:=by
 intro b k cs mE aj aJ;obtain ⟨e,vn,xm,aq,kq⟩:=h b (.inScope c::k) cs mE aj aJ;have ar:∀id,exitTo id (.inScope c::k)=exitTo id k:=fun id=>by simp [exitTo]
 cases e with
 | normal=>exact ⟨.normal,vn,xm,aq,.head (ra _) zA (StepsIn.trans kq (.one (ra _) aj'))⟩
 | exit id=>exact ⟨.exit id,vn,xm,aq,fun bx ay=>.head (ra _) zA (kq.1 bx (by rw [ar];exact ay)),fun sE ay=>let ⟨k₁,J,ad⟩:=kq.2 sE (by rw [ar];exact ay);⟨k₁,J,.head (ra _) zA ad⟩⟩
 | goto l=>exact aq.elim
 | ret=>exact ⟨_,vn,xm,aq,.of_steps (.one (ra _) zA) kq⟩
 | panic alE=>exact ⟨_,vn,xm,aq,.of_steps (.one (ra _) zA) kq⟩
 | outgrown=>exact ⟨_,vn,xm,aq,.of_steps (.one (ra _) zA) kq⟩
theorem YU (dE:C.P.follows .mixedOrders=true) (aK:e6 C.P) (hy:p0 C) {ex:iD} (hex:tk C.P ex) (az:Nat):∀c:Code,Lh C.P az c ((j2 C az c).run ex):=by
 have c':=Yp dE aK hy hex;have ee:=Yo (C:=C) ex;intro c
 induction c with
 | skip=>
   intro rd aB r h aJ E a w k s Q ak;exact wpIn_skip (ak E a w (Env.le.refl E) k s)
 | label l=>
   intro rd aB r h aJ E a w k s Q ak;exact wpIn_label (ak E a w (Env.le.refl E) k s)
 | exit id=>
   intro rd aB r h aJ E a w k s Q ak;exact wpIn_exit (ak E a w (Env.le.refl E) k s)
 | ret=>
   intro rd aB r h aJ E a w k s Q ak;exact wpIn_ret (ak E a w (Env.le.refl E) k s)
 | region id ops draw=>
   intro rd aB r h aJ E a w k s Q ak;have lift:∀x:o_,xF aB E az Q (match x with | .ok bI aa=>.ok .normal bI aa | .cY v bI aa=>.cY v bI aa | .fail=>.fail)->oI aB E az (Q .normal) Q x:=by intro x ar;cases x<;>exact ar
   cases draw with
   | true=>
     simp only [j2,am4,FJ] at ak;exact ZF dE aK c' ee (lift _ ak) k s
   | false=>
     simp only [j2,anf,FJ] at ak;refine wpIn_region ?_;have:=SW (rd:=rd) (Q:=Q) aK c' ee ops.toList 0 (fun j=>by simp) (aJ.imp (fun h=>h) fun h=>by simpa only [noMark,anr] using h) E r h a w (lift _ ak) k s;rw [List.range_eq_range'];simpa using this
 | seq x y wC wD=>
   intro rd aB r h aJ E a w k s Q ak;simp only [j2,T7] at ak;have yD:rd=none\/noMark x=true:=aJ.imp (fun h=>h) fun h=>by simp only [noMark,amX] at h;exact h.1
   have Ja:rd=none\/noMark y=true:=aJ.imp (fun h=>h) fun h=>by simp only [noMark,amX] at h;exact h.2
   refine wpIn_seq (wC rd aB r h yD E a w k s _ ?_).wp;cases ar:(j2 C az x).run ex r h with
   | fail=>rw [ar] at ak;exact ak
   | cY v bT J=>rw [ar] at ak;exact ak
   | ok an bT J=>
     rw [ar] at ak;simp only at ak;intro aw bt w' ag av aI;cases an with
     | normal=>exact (wD rd aB bT J Ja aw bt w' av aI Q (ak.up ag)).wp
     | exit id=>exact ak aw bt w' ag av aI
     | ret=>exact ak aw bt w' ag av aI
 | cond c x y wC wD=>
   intro rd aB r h aJ E a w k s Q ak;simp only [j2,Ow] at ak;have yD:rd=none\/noMark x=true:=aJ.imp (fun h=>h) fun h=>by simp only [noMark,amX] at h;exact h.1
   have Ja:rd=none\/noMark y=true:=aJ.imp (fun h=>h) fun h=>by simp only [noMark,amX] at h;exact h.2
   have ao:=d' k.toRegRel0 c;cases bB:(bZ c).run r<;>rw [bB] at ak ao<;>simp only at ak<;>try (exact ak.elim)
   rename_i t;simp only [Rel] at ao;cases t with
   | true=>exact wpIn_cond_true ao (wC rd aB r h yD E a w k s Q ak).wp
   | false=>exact wpIn_cond_false ao (wD rd aB r h Ja E a w k s Q ak).wp
 | block id x bA=>
   intro rd aB r h aJ E a w k s Q ak;simp only [j2,L'] at ak;refine wpIn_block (bA rd aB r h (aJ.imp (fun h=>h) fun h=>h) E a w k s _ ?_).wp;cases ar:(j2 C az x).run ex r h with
   | fail=>rw [ar] at ak;exact ak
   | cY v bT J=>rw [ar] at ak;exact ak
   | ok an bT J=>
     rw [ar] at ak;simp only at ak;intro aw bt w' ag av aI;cases an with
     | normal=>exact ak aw bt w' ag av aI
     | ret=>exact ak aw bt w' ag av aI
     | exit i=>
       simp only [h7] at ak;simp only [toExit,Exit.inBlock];by_cases au:i=id
       . rw [anb au] at ak ⊢;exact ak aw bt w' ag av aI
       . rw [am7 au] at ak ⊢;exact ak aw bt w' ag av aI
 | loop x bA=>
   intro rd aB r h aJ E a w k s Q ak;simp only [j2,Sa] at ak;have yD:rd=none\/noMark x=true:=aJ.imp (fun h=>h) fun h=>h;intro b dy cs mE;cases ar:(j2 C az x).run ex r h with
   | fail=>rw [ar] at ak;exact ak.elim
   | cY v bT J=>
     rw [ar] at ak;have body:=(bA rd aB r h yD E a w k s (fun dI bt w'=>∃y,dI=.panic y/\Q dI bt w') (by rw [ar];exact fun aw bt w' x ag av aI bU=>⟨_,rfl,ak aw bt w' x ag av aI bU⟩)).wp b (.inLoop x::dy) cs mE trivial (KJ _);obtain ⟨aN,a2,b1,⟨y,rfl,q⟩,kq⟩:=body;exact ⟨_,a2,b1,q,.pass (x:=.inLoop x) rfl (fun _ _=>.inl (by simp)) kq⟩
   | ok an bT J=>
     rw [ar] at ak;simp only at ak;have body:=(bA rd aB r h yD E a w k s
      (fun dI bt w'=>dI=toExit an/\∃aw,E.le aw/\fU aw az bT bt/\ba aB aw J w') (by rw [ar];exact fun aw bt w' ag av aI=>⟨rfl,aw,ag,av,aI⟩)).wp b (.inLoop x::dy) cs mE trivial (KJ _)
     obtain ⟨aN,a2,b1,⟨rfl,aH,ag,av,aI⟩,kq⟩:=body;cases an with
     | normal=>
       have next:=hex az (.loop x) rd aB bT J aJ aH a2 b1 av aI Q (ak.up ag)
       obtain ⟨cv,a3,jY,cf,cd⟩:=next b dy cs mE
       exact ⟨cv,a3,jY,cf,.of_steps (StepsIn.trans kq (.one (ra _) stepR_inLoop)) cd⟩
     | exit id=>exact ⟨.exit id,a2,b1,ak aH a2 b1 ag av aI,.pass (x:=.inLoop x) rfl (fun _ _=>.inl (by simp)) kq⟩
     | ret=>exact ⟨.ret,a2,b1,ak aH a2 b1 ag av aI,.pass (x:=.inLoop x) rfl (fun _ _=>.inl (by simp)) kq⟩
 | scope x bA=>
   intro rd aB r h aJ E a w k s Q ak;simp only [j2] at ak;refine T6 (bA rd aB r h (aJ.imp (fun h=>h) fun h=>h) E a w k s _ ?_).wp;cases ar:(j2 C az x).run ex r h with
   | fail=>rw [ar] at ak;exact ak
   | cY v bT J=>rw [ar] at ak;exact ak
   | ok an bT J=>
     rw [ar] at ak;intro aw bt w' ag av aI;have:=ak aw bt w' ag av aI;cases an<;>exact this
 | rangeFunc f bD x y _ _=>
   intro rd aB r h aJ E a w k s Q ak;rcases aJ with rfl | aJ
   case inr=>cases aJ
   simp only [j2] at ak;exact aiX dE aK hy hex k s ak
 | goto l=>intro rd aB r h aJ E a w k s Q ak;exact ak.elim
 | refuse akZ=>intro rd aB r h aJ E a w k s Q ak;exact ak.elim
end
section
variable {C:Ctx}
theorem Pn (dE:C.P.follows .mixedOrders=true) (aK:e6 C.P) (hy:p0 C):∀n,tk C.P (exec C n)
 | 0=>fun az c rd aB r h aJ E a w k s Q ak=>ak.elim
 | n+1=>fun az c=>YU dE aK hy (Pn dE aK hy n) az c
theorem Hk (dE:C.P.follows .mixedOrders=true) (aK:e6 C.P) (hy:p0 C) {n:Nat} {f:FuncId} {args:List V} {h aa:ah} {v:V} (aA:Nat.beq f dv=false) (ar:C.ext f=none) (he:sg C n f args h=.val v aa)
 {aB:Fr} {E:Env} {w:World} {xs:List Value} (ax:bm E args xs) (s:ba aB E h w):
 (∃fn,C.P.funcs[f]? =some fn/\fn.body.isSome=true)/\Calls C.P f xs.toArray w fun e w'=>∃aw x,e=.returned x/\E.le aw/\Rel aw v x/\ba aB aw aa w':=by
 unfold sg sh at he;rw [aA,anf,ar] at he;simp only at he;exact DU aK dE hy (Pn dE aK hy n) ax s (by rw [he];exact fun aw x w' ag av aI=>⟨aw,x,rfl,ag,av,aI⟩)
theorem FY (w:World) (hw:Lay.ok w):ba ⟨w,fun _=>none⟩ (fun _=>none) ah.empty w:=by
 refine ⟨fun b _=>?_,fun _ _ h=>(by cases h),(fun b bV p p' _ _ h=>by cases h),fun _ _=>rfl,Below.refl _ _,hw,(fun _ _ _ _ _ _ h=>by cases h)⟩;have:ah.empty.get b=.dead:=by simp [ah.get,ah.empty]
 rw [this];trivial
theorem akH (dE:C.P.follows .mixedOrders=true) (aK:e6 C.P) {w:World} (hw:Lay.ok w) (hy:p0 C) {n:Nat} {f:FuncId} (aA:Nat.beq f dv=false) (ar:C.ext f=none) (h:K1 C n f []=true):
 Calls C.P f #[] w fun e w'=>e=.returned (.bool true)/\Below w.heap.size w w':=by
 unfold K1 at h;cases ao:sg C n f [] ah.empty with
 | fail=>rw [ao] at h;cases h
 | cY _ _=>rw [ao] at h;cases h
 | val v bo=>
   rw [ao] at h;simp only at h;cases v<;>simp only at h<;>try (cases h;done)
   subst h;obtain ⟨_,kr⟩:=Hk dE aK hy aA ar ao (aB:=⟨w,fun _=>none⟩) (E:=fun _=>none) (w:=w) (xs:=[]) rfl (FY w hw);refine kr.mono fun e w' aq=>?_;obtain ⟨aw,x,rfl,_,av,aI⟩:=aq;simp only [Rel] at av;subst av;exact ⟨rfl,aI.frame⟩
end
end
section
open Go Go.RowKit Go.ChangeShapes Go.WideShapes
variable [Lay]
section
variable {H:Type} {enc:TypeId × Value->H} {P:Program}
end
end
section
open Go Go.RowKit
variable [Lay]
theorem ba.below {aB:Fr} {E:Env} {h:ah} {w w':World} (s:ba aB E h w) (aj:Below w.heap.size w w'):ba aB E h w':=by
 have cy:aB.w.heap.size<=w.heap.size:=s.frame.size;have gp:∀(k:Nat) (o:Obj),w.heap[k]? =some o->w'.heap[k]? =some o:=by
  intro k o ay;rw [aj.block k,ay];by_cases aL:k<w.heap.size
  . exact aL
  . rw [aoo (by omega)] at ay;cases ay
 refine ⟨fun b ak=>?_,s.pJ,s.inj,s.fresh,s.frame.trans (aj.mono cy),s.laid,s.base⟩;have:=s.bj b ak;cases ay:h.get b<;>rw [ay] at this<;>simp only [hf] at this ⊢
 . obtain ⟨ag,p,c,el,b5,av,aI,bU,c8⟩:=this;exact ⟨ag,p,c,el,b5,av,aI,gp _ _ bU,c8⟩
 . obtain ⟨ag,p,c,el,b5,av,aI,bU,c8⟩:=this;exact ⟨ag,p,c,el,b5,av,aI,gp _ _ bU,c8⟩
 . obtain ⟨p,ag,av,aI,bU⟩:=this;exact ⟨p,ag,av,aI,gp _ _ bU⟩
 . obtain ⟨p,a,ag,av,aI,bU⟩:=this;exact ⟨p,a,ag,av,gp _ _ aI,bU⟩
 . obtain ⟨p,o,ag,av,aI,bU⟩:=this;exact ⟨p,o,ag,av,gp _ _ aI,bU⟩
 . obtain ⟨p,ag,av,aI⟩:=this;exact ⟨p,ag,av,gp _ _ aI⟩
 . obtain ⟨p,a,c,l,ag,av,aI,bU⟩:=this;exact ⟨p,a,c,l,ag,av,gp _ _ aI,bU⟩
 . obtain ⟨p,m,a,ag,av,aI,bU,c8⟩:=this;exact ⟨p,m,a,ag,av,aI,gp _ _ bU,c8⟩
theorem afI {P:Program} {f:FuncId} {args:List V} {v:V} {h:ah} (H:∀E xs w,Lay.ok w->bm E args xs->Calls P f xs.toArray w fun e w'=>∃x,e=.returned x/\Rel E v x/\Below w.heap.size w w')
 (aB:Fr) (E:Env) (w:World) (xs:List Value) (ar:bm E args xs) (s:ba aB E h w):Calls P f xs.toArray w fun e w'=>∃aw x,e=.returned x/\E.le aw/\Rel aw v x/\ba aB aw h w':=by
 refine (H E xs w (Lay.gp s.laid s.frame) ar).mono fun e w' q=>?_;obtain ⟨x,rfl,bB,aj⟩:=q;exact ⟨E,x,rfl,Env.le.refl E,bB,s.below aj⟩
theorem Z6 {P:Program} {f:FuncId} {fn:Func} {e:Array Value->Sem Value} (aA:P.funcs[f]? =some fn) (aX:(fn.name == "runtime.NumGoroutine")=false) (aj:fn.body.isNone=true) (J:Extern.findNext fn=none) (ad:Extern.find fn=some e)
 {xs:Array Value} {x:Value} {w:World} (aJ:(e xs).run P w=.ok x w):(callFunc f xs).run P w=.ok (.value x) w:=by
 simp only [callFunc,Sem.run_bind,run_program,Result.andThen_ok,aA];rw [am7 (by rw [aX];simp),anb aj];simp only [Sem.run_bind,J,ad];have hm:(mark (.extern f)).run P w=.ok () w:=rfl;rw [hm];simp only [Result.andThen_ok,aJ,Sem.run_pure]
def Bz (c:Nat):List UInt8->Nat->Int
 | [],_=>-1
 | b::l,i=>bif Nat.beq b.toNat c then .ofNat i else Bz c l (i+1)
theorem Rp (c:Nat) (ao:c<256):∀(l:List UInt8) (i:Nat),Bz c l i=if Lib.indexByte l c.toUInt8=-1 then -1 else Lib.indexByte l c.toUInt8+i
 | [],i=>by simp [Bz,Lib.indexByte]
 | b::l,i=>by
   have ks:=Lib.indexByte_ge l c.toUInt8;have tO:(b.toNat=c)↔(b == c.toUInt8)=true:=by
    rw [aow,<-UInt8.toNat_inj];have:c.toUInt8.toNat=c:=by show c % 256=c;omega
    rw [this]
   have e:Lib.indexByte (b::l) c.toUInt8=if (b == c.toUInt8)=true then 0 else if (Lib.indexByte l c.toUInt8 == -1)=true then -1 else Lib.indexByte l c.toUInt8+1:=rfl;simp only [Bz,Rp c ao l (i+1),h7];by_cases h:b.toNat=c
   . rw [anb (tO.1 h)] at e;rw [anb h,e];simp
   . rw [am7 (fun e=>h (tO.2 e))] at e;rw [am7 h];by_cases ad:Lib.indexByte l c.toUInt8=-1
     . rw [ad] at e;simp only [beq_self_eq_true,anz] at e;simp [ad,e]
     . have aD:(Lib.indexByte l c.toUInt8 == -1)=false:=by simpa using ad
       rw [aD] at e;simp only [anm,anw] at e;rw [am7 ad,e,am7 (by omega)];omega
def preB:List UInt8->List UInt8->Bool
 | [],_=>true
 | _::_,[]=>false
 | a::x,b::y=>bif Nat.beq a.toNat b.toNat then preB x y else false
theorem Kp:∀(x y:List UInt8),preB x y=x.isPrefixOf y
 | [],y=>by cases y<;>rfl
 | _::_,[]=>rfl
 | a::x,b::y=>by
   simp only [preB,List.isPrefixOf,h7,Kp x y];by_cases h:a.toNat=b.toNat
   . have:a=b:=UInt8.toNat_inj.1 h;subst this;simp
   . have:(a == b)=false:=by
      rw [aof];exact fun e=>h (by rw [e])
     rw [am7 h,this];rfl
def hasB:List UInt8->List UInt8->Bool
 | [],sub=>preB sub []
 | b::l,sub=>bif preB sub (b::l) then true else hasB l sub
theorem P5:∀(s sub:List UInt8),hasB s sub=Lib.contains s sub
 | [],sub=>by simp only [hasB,Kp,Lib.contains,Lib.index];cases sub<;>simp
 | b::l,sub=>by
   simp only [hasB,Kp];have bA:=P5 l sub;unfold Lib.contains at bA ⊢;unfold Lib.index;cases h:sub.isPrefixOf (b::l) with
   | true=>simp
   | false=>
     simp only [anf,anm,anw,bA];have ks:=Lib.index_ge l sub;cases ad:(Lib.index l sub == -1) with
     | true=>
       have:Lib.index l sub=-1:=by simpa using ad
       simp [this]
     | false=>
       have:Lib.index l sub≠-1:=by simpa using ad
       simp only [anm,anw];rw [anT,ane,ane];omega
def Hq:xG:=⟨fun args h=>match args with
 | [x,y]=>(match x with
   | .str s=>(match y with
     | .str sub=>bif Nat.ble s.length 100000 then .val (.bool (hasB s sub)) h else .fail
     | _=>.fail)
   | _=>.fail)
 | _=>.fail⟩
theorem Y1 {args:List V} {h aa:ah} {v:V} (he:Hq.run args h=.val v aa):∃s sub,args=[.str s,.str sub]/\s.length<=100000/\v=.bool (Lib.contains s sub)/\aa=h:=by
 simp only [Hq] at he
 split at he
 case h_2=>cases he
 split at he
 case h_2=>cases he
 split at he
 case h_2=>cases he
 obtain ⟨ao,J⟩:=jN he;simp only [a7.val.injEq] at J;obtain ⟨rfl,rfl⟩:=J;exact ⟨_,_,rfl,anx ao,by rw [P5],rfl⟩
def Ex:xG:=⟨fun args h=>match args with
 | [x,y]=>(match x with
   | .str s=>(match y with
     | .int k c=>bif pg k .u8&&(Int.leB 0 c&&Nat.blt c.toNat 256) then .val (.int .i64 (Bz c.toNat s 0)) h else .fail
     | _=>.fail)
   | _=>.fail)
 | _=>.fail⟩
theorem adw {args:List V} {h aa:ah} {v:V} (he:Ex.run args h=.val v aa):∃s c,args=[.str s,.int .u8 c]/\v=.int .i64 (Lib.indexByte s c.toNat.toUInt8)/\aa=h:=by
 simp only [Ex] at he
 split at he
 case h_2=>cases he
 split at he
 case h_2=>cases he
 split at he
 case h_2=>cases he
 rename_i s _ k c;obtain ⟨ao,J⟩:=jN he;simp only [amX,anF] at ao;have ay:=sj ao.1;subst ay;simp only [a7.val.injEq] at J;obtain ⟨rfl,rfl⟩:=J;refine ⟨s,c,rfl,?_,rfl⟩;rw [Rp _ ao.2.2];by_cases h:Lib.indexByte s c.toNat.toUInt8=-1
 . rw [anb h,h]
 . rw [am7 h];simp
theorem adv {P:Program} {f:FuncId} {fn:Func} (aA:P.funcs[f]? =some fn) (aX:(fn.name == "runtime.NumGoroutine")=false) (aj:fn.body.isNone=true) (J:Extern.findNext fn=none) (ad:Extern.find fn=some Extern.BytealgIndexByte.indexByte)
 {args:List V} {h aa:ah} {v:V} (he:Ex.run args h=.val v aa) (aB:Fr) (E:Env) (w:World) (xs:List Value) (ar:bm E args xs) (s:ba aB E h w):
 ∃aw x w',(callFunc f xs.toArray).run P w=.ok (.value x) w'/\E.le aw/\Rel aw v x/\ba aB aw aa w':=by
 obtain ⟨t,c,rfl,rfl,rfl⟩:=adw he;obtain ⟨y,cS,rfl,ag,z,pU,rfl,av,rfl⟩:=ar;simp only [Rel] at ag av;subst ag av;exact ⟨E,_,w,Z6 aA aX aj J ad (Lib.run_indexByteString _ _ _),Env.le.refl E,by simp [Rel],s⟩
theorem aje {H:Type} {enc:TypeId × Value->H} {a:Assume} {C:Checked} {os:Os} {f:FuncId} {fn:Func} {s:ChangeSpec} {conds:List PathCond} {apart fresh handsOn again:Bool} {X:World->Array Value->Prop}
 (dL:∀(w w':World) (args:Array Value),w.heap=w'.heap->X w args->X w' args)
 (own:ownKnob C.prog.godebug=none) (started:os.Started) (aht:C.prog.inits.idxOf? f=none) (hM:C.prog.funcs[f]? =some fn)
 (witness:∃(w:World) (tape:Tape) (i:Input),w.os=os/\(w.forCall tape i).Shaped C.prog/\i.vars=[]/\Input.okWide C.prog (w.forCall tape i) .any w.heap.size f i/\
   ((s.pre enc C.prog fn conds apart (w.forCall tape i).memory i.args/\X (w.forCall tape i).memory i.args)/\sizedMet enc C.prog fn (OpenSpec.ofChange s) apart (w.forCall tape i).memory i.args)/\a.holds C.prog (lone (Frame.enter C.prog f i.args .normal) [] (w.forCall tape i)))
 (Y3:∀(W:World) (base:Nat) (args:Array Value) (ds gs:List (DataW H)) (before:List MemPlace),
   (∀(j:Nat) t v,fn.params[j]? =some t->args[j]? =some v->Value.okWide C.prog W .any base t v)->
   DataW.Whole enc C.prog fn.params.toList s.vars apart W args.toList ds gs before->
   X W args->W.ShapedOpen C.prog->
   Calls C.prog f args W fun e tu=>∃v,e=.returned v/\s.post enc C.prog fn apart fresh handsOn again W args v tu):
 ReturnsInHanded a C os f .any (fun w args=>(s.pre enc C.prog fn conds apart w args/\X w args)/\sizedMet enc C.prog fn (OpenSpec.ofChange s) apart w args) (s.post enc C.prog fn apart fresh handsOn again):=by
 refine returnsInHanded_of_calls own started aht witness ?_;intro w tape i _ Bm _ bC lq al0;obtain ⟨_,_,_,DT,abS,_,_,_,_,Bp⟩:=bC;have e:DT=fn:=an9 (abS.symm.trans hM);subst e;obtain ⟨⟨⟨ds,gs,before,hw,ao⟩,ar⟩,bG⟩:=lq;have sI:=DataW.Whole.of_heap (w':=w.forCall tape i) (by rfl) hw;refine (Y3 (w.forCall tape i) w.heap.size i.args ds gs before Bp sI (dL _ _ _ (by rfl) ar) Bm).mono fun e tu ⟨v,he,ak⟩=>?_;subst he;exact ChangeSpec.post_blind ak
end
section
open Go Go.RowKit Go.Maps Go.Sort Go.Shelf
open Go.Proofs (encStr)
variable [Lay]
end
section
open Go Go.RowKit
variable [Lay]
def xe (cs:T V) (off:Nat):Nat->Option (List (List UInt8))
 | 0=>some []
 | n+1=>(match T.get .bad (aC off) cs with
   | .str s=>(match xe cs (off+1) n with
     | some l=>some (s::l)
     | none=>none)
   | _=>none)
def Ul (r:List UInt8) (h:ah):a7:=bif Nat.ble r.length 1000000 then .val (.str r) h else .fail
def EC (h:ah) (b:aU) (off len:Nat) (sep:List UInt8):a7:=
 match h.get b with
 | .cells n cs _ _=>bif Nat.ble (off+len) n&&Nat.ble len 1000000 then (match xe cs off len with
   | some l=>Ul (Lib.join l sep) h
   | none=>.fail) else .fail
 | _=>.fail
def Jv:xG:=⟨fun args h=>match args with
 | [x,y]=>(match y with
   | .str sep=>(match x with
     | .cc=>.val (.str []) h
     | .slice b off len _=>EC h b off len sep
     | .eu b off len _=>EC h b off len sep
     | _=>.fail)
   | _=>.fail)
 | _=>.fail⟩
structure GC (P:Program) (f:FuncId):Prop where
 many:∀(Aq o c:Nat) (xs:List ByteArray) (sep:ByteArray) (w:World),(∀(j:Nat) x,xs[j]? =some x->w.cell? ⟨Aq,o+j,none⟩=some (.string x))->Aq<w.heap.size->xs.length<=140737488355328->xs.length<=c->
  (Lib.join (xs.map (·.data.toList)) sep.data.toList).length<=140737488355328->
  Calls P f #[.slice (some ⟨Aq,o,none⟩) xs.length c,.string sep] w fun e w'=>e=.returned (.string ⟨(Lib.join (xs.map (·.data.toList)) sep.data.toList).toArray⟩)/\Below w.heap.size w w'
 E7:∀(a:Option Addr) (c:Nat) (sep:ByteArray) (w:World),Calls P f #[.slice a 0 c,.string sep] w fun e w'=>e=.returned (.string ⟨#[]⟩)/\w'=w
theorem Um {cs:T V}:∀{n off:Nat} {l:List (List UInt8)},xe cs off n=some l->l.length=n/\∀j s,l[j]? =some s->T.get .bad (aC (off+j)) cs=.str s
 | 0,off,l,h=>by simp only [xe,amW] at h;subst h;exact ⟨rfl,fun j s h=>by simp at h⟩
 | n+1,off,l,h=>by
   simp only [xe] at h
   split at h
   case h_2=>cases h
   rename_i s aM;cases aJ:xe cs (off+1) n with
   | none=>rw [aJ] at h;cases h
   | some gd=>
     rw [aJ] at h;simp only [amW] at h;subst h;obtain ⟨g1,g2⟩:=Um aJ;refine ⟨by simp [g1],fun j t aE=>?_⟩;cases j with
     | zero=>
       simp only [anj,amW] at aE;subst aE;exact aM
     | succ j=>
       have:=g2 j t (by simpa using aE);rw [show off + (j+1)=off+1+j from by omega];exact this
theorem Rq {P:Program} {f:FuncId} (K:GC P f) {h aa:ah} {b:aU} {off len:Nat} {sep:List UInt8} {v:V} (he:EC h b off len sep=.val v aa) {aB:Fr} {E:Env} {w:World} (s:ba aB E h w) {p:iW} (ak:E b=some p) {c:Nat} (ao:len<=c):
 Calls P f #[.slice (some ⟨p.bj,p.base+off,none⟩) len c,.string ⟨⟨sep⟩⟩] w fun e w'=>∃aw x,e=.returned x/\E.le aw/\Rel aw v x/\ba aB aw aa w':=by
 unfold EC at he
 split at he
 case h_2=>cases he
 rename_i n cs cT st nZ;obtain ⟨A1,he⟩:=jN he;simp only [amX,ann] at A1;cases ax:xe cs off len with
 | none=>rw [ax] at he;cases he
 | some L=>
   rw [ax] at he;simp only [Ul] at he;obtain ⟨IC,he⟩:=jN he;rw [ann] at IC;simp only [a7.val.injEq] at he;obtain ⟨rfl,rfl⟩:=he;obtain ⟨g1,g2⟩:=Um ax;have aj:=s.at ak;rw [nZ] at aj;obtain ⟨_,p',On,el,b5,an,_,v8,_,_,_,Ec⟩:=aj;rw [ak] at an;cases an;have aL:=(am1.1 v8).1;have nr:(L.map fun x=>(⟨⟨x⟩⟩:ByteArray)).map (·.data.toList)=L:=by rw [List.map_map];exact (List.map_congr_left (fun _ _=>rfl)).trans (List.map_id L)
   have cells:∀(j:Nat) (x:ByteArray),(L.map fun x=>(⟨⟨x⟩⟩:ByteArray))[j]? =some x->w.cell? ⟨p.bj,p.base+off+j,none⟩=some (.string x):=by
    intro j x ar;rw [anQ] at ar;cases cG:L[j]? with
    | none=>rw [cG] at ar;cases ar
    | some t=>
      rw [cG] at ar;cases ar;have bJ:j<len:=by rw [<-g1];exact (anl.1 cG).1
      have cy:p.base+off+j<On.size:=by have:=Ec.1;omega
      have aJ:=Ec.2 (off+j) On[p.base+off+j] (by omega) (by rw [<-Nat.add_assoc];exact ani cy);rw [g2 j t cG] at aJ;simp only [Rel] at aJ;simp only [World.cell?,v8];rw [<-aJ];exact ani cy
   have:=K.many p.bj (p.base+off) c (L.map fun x=>(⟨⟨x⟩⟩:ByteArray)) ⟨⟨sep⟩⟩ w cells aL (by rw [anc];omega) (by rw [anc];omega) (by rw [nr];show (Lib.join L sep).length<=_;omega);rw [nr,anc,g1] at this;refine this.mono fun e w' q=>?_;exact ⟨E,_,q.1,fun _ _ q=>q,by simp only [Rel],s.below q.2⟩
theorem adM {P:Program} {f:FuncId} (K:GC P f) {args:List V} {h aa:ah} {v:V} (he:Jv.run args h=.val v aa)
 (aB:Fr) (E:Env) (w:World) (xs:List Value) (ar:bm E args xs) (s:ba aB E h w):
 Calls P f xs.toArray w fun e w'=>∃aw x,e=.returned x/\E.le aw/\Rel aw v x/\ba aB aw aa w':=by
 simp only [Jv] at he
 split at he
 case h_2=>cases he
 rename_i x y
 split at he
 case h_2=>cases he
 rename_i sep;obtain ⟨X,_,rfl,ag,Y,_,rfl,av,rfl⟩:=ar;simp only [Rel] at av;subst av;cases x<;>simp only at he<;>first
  | (cases he;done)
  | skip
 . simp only [Rel] at ag;obtain ⟨p,ak,ao,rfl⟩:=ag;exact Rq K he s ak ao
 . simp only [Rel] at ag;obtain ⟨p,ak,ao,rfl⟩:=ag;exact Rq K he s ak (by omega)
 . simp only [a7.val.injEq] at he;obtain ⟨rfl,rfl⟩:=he;simp only [Rel] at ag;subst ag;refine (K.E7 none 0 ⟨⟨sep⟩⟩ w).mono fun e w' q=>?_;obtain ⟨ag,rfl⟩:=q;exact ⟨E,_,ag,fun _ _ q=>q,by simp only [Rel],s⟩
def DC:Nat->Nat->List UInt8->List UInt8
 | 0,_,acc=>acc
 | f+1,u,acc=>bif Nat.blt u 10 then UInt8.ofNat (48+u)::acc else DC f (u / 10) (UInt8.ofNat (48+u % 10)::acc)
theorem OX:∀(f u:Nat) (acc:List UInt8),u<10 ^ (f+1)->DC (f+1) u acc=Lib.decDigits u++acc
 | f,u,acc,h=>by
   rw [DC,Lib.decDigits];by_cases hu:u<10
   . rw [dif_pos hu,show Nat.blt u 10=true from by rw [anF];exact hu];rfl
   . rw [dif_neg hu,show Nat.blt u 10=false from by rw [<-Bool.not_eq_true,anF];exact hu,anf];cases f with
     | zero=>simp at h;omega
     | succ f=>
       rw [OX f (u / 10) _ (by rw [Nat.pow_succ] at h;omega),ana];rfl
def Ju:xG:=⟨fun args h=>match args with
 | [x]=>(match x with
   | .int k n=>(match n with
     | .ofNat u=>bif pg k .i64&&Nat.blt u 1000000000000000000 then .val (.str (DC 18 u [])) h else .fail
     | .negSucc _=>.fail)
   | _=>.fail)
 | _=>.fail⟩
def Lr (P:Program) (f:FuncId):Prop:=∀(n:Int) (w:World),Lay.ok w->-9223372036854775808<=n->n<=9223372036854775807->
 Calls P f #[.int .i64 n] w fun e w'=>e=.returned (.string ⟨(Lib.itoa n).toArray⟩)/\Below w.heap.size w w'
theorem adI {P:Program} {f:FuncId} (K:Lr P f) {args:List V} {h aa:ah} {v:V} (he:Ju.run args h=.val v aa)
 (aB:Fr) (E:Env) (w:World) (xs:List Value) (ar:bm E args xs) (s:ba aB E h w):
 Calls P f xs.toArray w fun e w'=>∃aw x,e=.returned x/\E.le aw/\Rel aw v x/\ba aB aw aa w':=by
 simp only [Ju] at he
 split at he
 case h_2=>cases he
 rename_i x
 split at he
 case h_2=>cases he
 rename_i k n
 split at he
 case h_2=>cases he
 rename_i u;obtain ⟨A1,bB⟩:=jN he;clear he;simp only [amX,anF] at A1;have ay:=sj A1.1;subst ay;simp only [a7.val.injEq] at bB;obtain ⟨rfl,rfl⟩:=bB;obtain ⟨X,_,rfl,ag,rfl⟩:=ar;simp only [Rel] at ag;subst ag;refine (K (.ofNat u) w (Lay.gp s.laid s.frame) (by have:(0:Int)<=.ofNat u:=Int.natCast_nonneg u;omega) (by have:(Int.ofNat u)=(u:Int):=rfl;omega)).mono fun e w' q=>?_;refine ⟨E,_,q.1,fun _ _ q=>q,?_,s.below q.2⟩;simp only [Rel];rw [OX 17 u [] A1.2,anC];have:¬(Int.ofNat u<0):=by have:(0:Int)<=.ofNat u:=Int.natCast_nonneg u;omega
 unfold Lib.itoa;rw [am7 this];rfl
end
end Go.Proofs.YtefceblncmdkhaaGreatDoor.bd
