/- The abstract machine and its walks (a verified interpreter of the model's code: plain definitions and lemmas, no condition). Printed by a program from longer texts: names made short. -/
import Derived.Test.YtefceblncmdkhaaGreatDoorM2
import Derived.Scope
import Derived.RangeFuncRecord
import Derived.Carry
import Derived.OpenShut
import Derived.ChangeSame
import Derived.Lib.Bytealg
import Derived.Lib.IndexMore
import Derived.Handed
import Derived.HandedShaped
import Derived.Shelf.SlIter.Sorted
import Derived.Shelf.SlIter.Nil
import Derived.StringKeys
import Derived.WideShapes
import Derived.Lib.ItoaNum
import Derived.Lib.Join
set_option linter.unusedSectionVars false
set_option linter.unusedSimpArgs false
set_option linter.unusedVariables false
set_option maxHeartbeats 64000000
noncomputable section
namespace Go.Proofs.YtefceblncmdkhaaGreatDoor.bb
section
open Go Go.RowKit
variable [Lay]
theorem DP {α:Type} (p q:α->Bool):∀(l:List α),(∀x ∈ l,q x=true->p x=true)->(∃x ∈ l,p x=true/\q x=false)->l.countP q<l.countP p
 | [],_,h=>by obtain ⟨x,ar,_⟩:=h;simp at ar
 | a::l,J,ad=>by
   have hle:l.countP q<=l.countP p:=List.countP_mono_left fun x ar=>J x (by simp [ar]);obtain ⟨x,ar,ak,aq⟩:=ad;simp only [an2] at ar;rcases ar with rfl | ar
   . rw [List.countP_cons,List.countP_cons,ak,aq];simp;omega
   . have bC:=DP p q l (fun y bc=>J y (by simp [bc])) ⟨x,ar,ak,aq⟩;have bF:=J a (by simp);rw [List.countP_cons,List.countP_cons];cases ac':q a with
     | true=>rw [bF ac'];simp;omega
     | false=>simp;omega
theorem xW (e:Edge):Region.binds .any e=vt e:=by unfold Region.binds vt;cases e.ground<;>rfl
section
variable {P:Program}
theorem uK {order:List Nat}:∀{bE:List Nat} {k j p:Nat},Cy order k bE=true->bE[j]? =some p->order[p]? =some (k+j)
 | [],_,j,p,_,h=>by simp at h
 | q::bE,k,j,p,ak,h=>by
   simp only [Cy,anu] at ak;cases j with
   | zero=>
     simp only [anR,ant] at h;subst h;have J:=ak.1;cases aq:order[q]? with
     | none=>rw [aq] at J;cases J
     | some i=>rw [aq] at J;rw [an6] at J;rw [J];rfl
   | succ j=>
     have:=uK ak.2 (show bE[j]? =some p by simpa using h);rw [this];congr 1;omega
theorem oy {ops:Array Oper}:∀{order:List Nat} {p i:Nat} {o:Oper},order[p]? =some i->ops[i]? =some o->(h2 ops order)[p]? =some o
 | [],p,i,o,h,_=>by simp at h
 | x::xs,p,i,o,h,a1=>by
   cases p with
   | zero=>
     simp only [anR,ant] at h;subst h;simp [h2,a1]
   | succ p=>simpa [h2] using oy (show xs[p]? =some i by simpa using h) a1
theorem qI {ops:Array Oper}:∀{order:List Nat},(h2 ops order).length=order.length
 | []=>rfl
 | x::xs=>by simp [h2,qI (order:=xs)]
structure Cert (P:Program) (az:Nat) (ops:Array Oper) (calls:Nat->eA) (es:List ft) (ba:bO) (a6:ah) (dr:bO) (aA:ah) (fb:List Nat) (order aF:List Nat) (N M:Nat) (lit:Bool):Prop where
 len:es.length=N
 Cf:N<=ops.size
 Cg:N<=M
 iV:∀k,k<ops.size->posOf aF k<ops.size/\order[posOf aF k]? =some k
 mj:∀p,p<ops.size->∃i,i<ops.size/\posOf aF i=p
 a6:cv es aA 0=a6
 ba:e8 es dr 0=ba
 step:∀i o,ops[i]? =some o->posOf aF i<N->∃e,es[posOf aF i]? =some e/\(cU P az ops o).run (calls i) e.r e.h=.val e.v (cv es aA (posOf aF i+1))/\e8 es dr (posOf aF i+1)=(gn o.dst).run e.r e.v
 n1:∀i o,ops[i]? =some o->∃c',(fp [] ops.toList)[i]? =some c'/\nG i o=true/\(posOf aF i<M->
  ∀k ok,ops[k]? =some ok->posOf aF k<M->∃mk,(fp [] ops.toList)[k]? =some mk/\pL i c' (b2 ops o) o.dst k mk ok (Nat.blt (posOf aF k) (posOf aF i))=true/\(fy P o.op=true->eX P ok=true->posOf aF k<posOf aF i->gC c' k=true\/(lit=true/\l9 o=true/\l9 ok=true)))
 ends:N ∈ fb
 mem:∀j o,ops[j]? =some o->eX P o=true->posOf aF j ∈ fb
 UQ:∀s ∈ fb,(s=ops.size\/(s=N/\M=N))\/∃k o,ops[k]? =some o/\eX P o=true/\s=posOf aF k
 ask:∀j o,ops[j]? =some o->looks o.op=true->fy P o.op=false->posOf aF j<N->∃e,es[posOf aF j]? =some e/\∀s ∈ fb,
  sX P (fp [] ops.toList) ops.toList aF j (((fp [] ops.toList)[j]?).getD 0) s=true->∃c ab,(hA P c/\hI P c)/\(cU P az ops o).run c e.r (cv es aA s)=.val e.v ab
 tail:M<ops.size->M=N/\∀k ok mk,ops[k]? =some ok->N<=posOf aF k->(fp [] ops.toList)[k]? =some mk->∀j,j<ops.size->posOf aF j<N->gC mk j=true
 stop:N<ops.size->ops.size<=M->∃i0 iG m0,ops[i0]? =some iG/\posOf aF i0=N/\mR iG.op=true/\(fp [] ops.toList)[i0]? =some m0/\
  (∀k ok mk,ops[k]? =some ok->N<posOf aF k->(fp [] ops.toList)[k]? =some mk->gC mk i0=true)/\
  (∀k ok,ops[k]? =some ok->hq ok=true->posOf aF k<N->gC m0 k=true)/\∃v ab,(cU P az ops iG).run (calls i0) dr aA=.c1 v ab
theorem SK {o:Oper} (h:mR o.op=true):fy P o.op=true/\hq o=false:=by
 obtain ⟨dst,op,type,pos,after,guard⟩:=o;cases op<;>simp only [mR] at h<;>try (cases h;done)
 . rename_i c;obtain ⟨callee,args,types⟩:=c;cases callee<;>simp only at h<;>try (cases h;done)
   exact ⟨rfl,rfl⟩
 . exact ⟨rfl,rfl⟩
variable {az:Nat} {ops:Array Oper} {call:eA} {calls:Nat->eA} {es:List ft} {ba:bO} {a6:ah} {dr:bO} {aA:ah} {fb:List Nat} {order aF:List Nat} {N M:Nat} {lit:Bool}
theorem Cert.w5 (C:Cert P az ops calls es ba a6 dr aA fb order aF N M lit) {k bu:Nat} (J:k<ops.size) (ad:bu<ops.size) (he:posOf aF k=posOf aF bu):k=bu:=by have a:=(C.iV k J).2;have b:=(C.iV bu ad).2;rw [he,b] at a;cases a;rfl
theorem Pp {ops:Array Oper} {aF:List Nat} (aA:x2 P ops aF=true):∀i o,ops[i]? =some o->∃c',(fp [] ops.toList)[i]? =some c'/\nG i o=true/\
 ∀k ok,ops[k]? =some ok->∃mk,(fp [] ops.toList)[k]? =some mk/\pL i c' (b2 ops o) o.dst k mk ok (Nat.blt (posOf aF k) (posOf aF i))=true/\(fy P o.op=true->eX P ok=true->posOf aF k<posOf aF i->gC c' k=true):=by
 intro i o au;unfold x2 at aA;obtain ⟨c',J,ad⟩:=qZ aA i o (by simpa using au);simp only [an8,anu] at ad;refine ⟨c',J,ad.1,fun k ok ay=>?_⟩;obtain ⟨mk,bX,b_⟩:=qZ ad.2 k ok (by simpa using ay);simp only [an8,anu] at b_;refine ⟨mk,bX,b_.1,fun al aN aH=>?_⟩;have dY:=b_.2;rw [al,aN,aoC,show Nat.blt (posOf aF k) (posOf aF i)=true from by rw [aoa];exact aH] at dY;exact dY
theorem Cert.KS (C:Cert P az ops calls es ba a6 dr aA fb order aF N M lit):∀p,p<=N->∀t,t<=top->
 (∃k o e,posOf aF k<p/\ops[k]? =some o/\o.dst=some t/\es[posOf aF k]? =some e/\T.get .bad (aD t) (e8 es dr p)=e.v)\/
 ((∀k o,posOf aF k<p->ops[k]? =some o->o.dst≠some t)/\T.get .bad (aD t) (e8 es dr p)=T.get .bad (aD t) ba)
 | 0,_,t,aE=>.inr ⟨fun k o h=>by omega,by rw [C.ba]⟩
 | p+1,au,t,aE=>by
   obtain ⟨i,aH,kz⟩:=C.mj p (by have:=C.Cf;omega);have cP:ops[i]? =some ops[i]:=anQ aH;obtain ⟨e,J,ad,aC⟩:=C.step i ops[i] cP (by omega);rw [kz] at J ad aC;have Je:e8 es dr p=e.r:=by simp [e8,J]
   have eP:=Qd (r:=e.r) (v:=e.v) (k9 ad).1 aE;rw [aC,eP];by_cases aZ:ops[i].dst=some t
   . rw [anL aZ];exact .inl ⟨i,_,e,by omega,cP,aZ,by rw [kz];exact J,rfl⟩
   . rw [anE aZ,<-Je];rcases Cert.KS C p (by omega) t aE with ⟨k,o,dL,ag,av,aJ,bU,cX⟩ | ⟨ag,av⟩
     . exact .inl ⟨k,o,dL,by omega,av,aJ,bU,cX⟩
     . refine .inr ⟨fun k o ay a1=>?_,av⟩;by_cases ho:k=i
       . subst ho;rw [cP] at a1;cases a1;exact aZ
       . refine ag k o ?_ a1;have qp:=(anx.1 a1).1;have:posOf aF k≠p:=fun e=>ho (C.w5 qp aH (by rw [e,kz]));omega
theorem Cert.HJ (C:Cert P az ops calls es ba a6 dr aA fb order aF N M lit):∀p,p<=N->T.get .bad fw (e8 es dr p)=T.get .bad fw ba
 | 0,_=>by rw [C.ba]
 | p+1,au=>by
   obtain ⟨i,aH,kz⟩:=C.mj p (by have:=C.Cf;omega);have cP:ops[i]? =some ops[i]:=anQ aH;obtain ⟨e,J,ad,aC⟩:=C.step i ops[i] cP (by omega);rw [kz] at J ad aC;have Je:e8 es dr p=e.r:=by simp [e8,J]
   have aZ:=(k9 ad).1;rw [aC,<-Cert.HJ C p (by omega),Je];cases ace:ops[i].dst with
   | none=>rfl
   | some d=>
     rw [ace] at aZ;simp only [fO,anu,anS] at aZ;simp only [gn];rw [T.iN,anE (w3 aZ.2)]
def nameAt (es:List ft) (aA:ah) (aF:List Nat) (k:Nat):aU:=aD (cv es aA (posOf aF k)).next
def AE (es:List ft) (aA:ah) (aF:List Nat) (k:Nat):cn:=(cv es aA (posOf aF k+1)).get (nameAt es aA aF k)
def Made (es:List ft) (aA:ah) (aF:List Nat) (k:Nat):Prop:=(cv es aA (posOf aF k+1)).next≠(cv es aA (posOf aF k)).next
def kM (ops:Array Oper) (es:List ft) (aA:ah) (aF:List Nat) (listed:Array Bool) (s k:Nat):Prop:=
 ∃o,ops[k]? =some o/\(hq o=true/\Made es aA aF k)/\¬listed.getD k false=true/\posOf aF k<s
structure Holds (aB F:Fr) (es:List ft) (aA:ah) (aF:List Nat) (D:Nat->Prop):Prop where
 w:F.w=aB.w
 cJ:∀b,(∀k,D k->nameAt es aA aF k≠b)->F.h3 b=aB.h3 b
 new:∀k,D k->F.h3 (nameAt es aA aF k)=some (AE es aA aF k)/\aB.h3 (nameAt es aA aF k)=none
 inj:∀k bu,D k->D bu->nameAt es aA aF k=nameAt es aA aF bu->k=bu
theorem Holds.congr {aB F:Fr} {D LC:Nat->Prop} (H:Holds aB F es aA aF D) (h:∀k,LC k↔D k):Holds aB F es aA aF LC:=
 ⟨H.w,fun b aj=>H.cJ b fun k ay=>aj k ((h k).2 ay),fun k ay=>H.new k ((h k).1 ay),fun k bu ay iz=>H.inj k bu ((h k).1 ay) ((h bu).1 iz)⟩
theorem Holds.none {aB F:Fr} {D:Nat->Prop} (H:Holds aB F es aA aF D) (h:∀k,¬D k):F=aB:=by have:F.h3=aB.h3:=funext fun b=>H.cJ b fun k ay=>absurd ay (h k);cases F;cases aB;have hw:=H.w;simp only at this hw;rw [this,hw]
theorem Cert.advance (C:Cert P az ops calls es ba a6 dr aA fb order aF N M lit) {aB:Fr} {listed:Array Bool} {E:Env} {w:World}:∀(d q:Nat),q+d=N->(∀k o,ops[k]? =some o->hq o=true->q<=posOf aF k->¬listed.getD k false=true)->
 ∀F,Holds aB F es aA aF (kM ops es aA aF listed q)->bd F E (cv es aA q) w->
 ∃s dn,s ∈ fb/\q<=s/\s<=N/\(∀k o,ops[k]? =some o->eX P o=true->q<=posOf aF k->s<=posOf aF k)/\Holds aB dn es aA aF (kM ops es aA aF listed s)/\bd dn E (cv es aA s) w
 | 0,q,aq,_,F,H,S=>by
   have:q=N:=by omega
   subst this;exact ⟨q,F,C.ends,anD _,anD _,fun k o _ _ h=>h,H,S⟩
 | d+1,q,aq,tT,F,H,S=>by
   obtain ⟨i,aH,kz⟩:=C.mj q (by have:=C.Cf;omega);have cP:ops[i]? =some ops[i]:=anQ aH;cases nr:eX P ops[i] with
   | true=>exact ⟨q,F,by rw [<-kz];exact C.mem i _ cP nr,anD _,by omega,fun k o _ _ h=>h,H,S⟩
   | false=>
     obtain ⟨e,J,ad,aC⟩:=C.step i ops[i] cP (by omega);rw [kz] at J ad;have tR:cv es aA q=e.h:=by simp [cv,J]
     have only:∀k o,ops[k]? =some o->posOf aF k=q->k=i:=fun k o ay ak=>C.w5 (anx.1 ay).1 aH (by rw [ak,kz]);have fin:∀dn,Holds aB dn es aA aF (kM ops es aA aF listed (q+1))->bd dn E (cv es aA (q+1)) w->
      ∃s dn,s ∈ fb/\q<=s/\s<=N/\(∀k o,ops[k]? =some o->eX P o=true->q<=posOf aF k->s<=posOf aF k)/\Holds aB dn es aA aF (kM ops es aA aF listed s)/\bd dn E (cv es aA s) w:=by
      intro dn my VY;obtain ⟨s,z',g1,g2,g3,g4,g5,g6⟩:=Cert.advance C d (q+1) (by omega) (fun k o J ad aC=>tT k o J ad (by omega)) dn my VY;refine ⟨s,z',g1,by omega,g3,fun k o ay ao ak=>g4 k o ay ao ?_,g5,g6⟩;by_cases mI:posOf aF k=q
      . have:=only k o ay mI;subst this;rw [cP] at ay;cases ay;rw [nr] at ao;cases ao
      . omega
     have pass:cv es aA (q+1)=e.h->(hq ops[i]=true->¬Made es aA aF i)->∃s dn,s ∈ fb/\q<=s/\s<=N/\(∀k o,ops[k]? =some o->eX P o=true->q<=posOf aF k->s<=posOf aF k)/\Holds aB dn es aA aF (kM ops es aA aF listed s)/\bd dn E (cv es aA s) w:=by
      intro yM l6;rw [<-tR] at yM;refine fin F (H.congr fun k=>⟨?_,?_⟩) (by rw [yM];exact S)
      . rintro ⟨o,ag,av,aJ,bU⟩;refine ⟨o,ag,av,aJ,?_⟩;have:posOf aF k≠q:=fun e=>by
         have:=only k o ag e;subst this;rw [cP] at ag;cases ag;exact l6 av.1 av.2
        omega
      . rintro ⟨o,ag,av,aJ,bU⟩;exact ⟨o,ag,av,aJ,by omega⟩
     cases bF:hq ops[i] with
     | true=>
      rcases Pm bF ad with ⟨dB,bX,b_⟩ | ⟨bX,_⟩
      ·
       have aL:=S.hold dB;have aX:nameAt es aA aF i=aD (cv es aA q).next:=by unfold nameAt;rw [kz]
       have aj:AE es aA aF i=dB:=by unfold AE;rw [aX,kz,bX,tR,ah.jC,anL rfl]
       rw [tR,<-bX] at aL;have acS:Made es aA aF i:=by unfold Made;rw [kz,bX,tR];exact Nat.succ_ne_self _
       have rz:¬listed.getD i false=true:=tT i _ cP bF (by omega);have HA:∀k,kM ops es aA aF listed (q+1) k->k=i\/kM ops es aA aF listed q k:=by
        rintro k ⟨o,ag,av,aJ,bU⟩;by_cases mI:posOf aF k=q
        . exact .inl (only k o ag mI)
        . exact .inr ⟨o,ag,av,aJ,by omega⟩
       have fresh:∀b yZ,F.h3 b=some yZ->b≠nameAt es aA aF i:=by intro b yZ rk heq;obtain ⟨_,_,j,BP,wL⟩:=S.pM b yZ rk;rw [heq,aX] at wL;rw [tR] at BP wL;have:=lE wL;omega
       have Ry:∀b,b≠nameAt es aA aF i->(F.hold (aD e.h.next) dB).h3 b=F.h3 b:=by intro b Qv;rw [aX,tR] at Qv;simp only [Fr.hold,anE Qv]
       have WO:(F.hold (aD e.h.next) dB).h3 (nameAt es aA aF i)=some dB:=by rw [aX,tR];simp only [Fr.hold,an7]
       have ne:∀k,kM ops es aA aF listed q k->nameAt es aA aF k≠nameAt es aA aF i:=fun k ay=>fresh _ _ (H.new k ay).1;refine fin (F.hold (aD e.h.next) dB) ⟨H.w,fun b rk=>?_,fun k ay=>?_,fun k bu ay iz he=>?_⟩ aL
       . have vT:b≠nameAt es aA aF i:=fun e=>rk i ⟨_,cP,⟨bF,acS⟩,rz,by omega⟩ e.symm;rw [Ry b vT];exact H.cJ b fun k ay=>rk k (by obtain ⟨o,ag,av,aJ,bU⟩:=ay;exact ⟨o,ag,av,aJ,by omega⟩)
       . rcases HA k ay with rfl | ay
         . refine ⟨by rw [WO,aj],?_⟩;cases ak:aB.h3 (nameAt es aA aF k) with
           | none=>rfl
           | some yZ=>
             exfalso;have:=H.cJ (nameAt es aA aF k) fun bu iz=>ne bu iz;rw [ak] at this;exact fresh _ _ this rfl
         . rw [Ry _ (ne k ay)];exact H.new k ay
       . rcases HA k ay with rfl | ay<;>rcases HA bu iz with rfl | iz
         . rfl
         . exact absurd he.symm (ne bu iz)
         . exact absurd he (ne k ay)
         . exact H.inj k bu ay iz he
      . refine pass bX fun _ hm=>hm ?_;rw [kz,bX,tR]
     | false=>
       have eC:fy P ops[i].op=false:=by unfold eX at nr;rw [bF] at nr;simpa using nr
       exact pass (vB eC ad).1 fun h=>by rw [bF] at h;cases h
structure q0 (P:Program) (aB:Fr) (az:Nat) (ops:Array Oper) (es:List ft) (ba:bO) (aA:ah) (fb aF:List Nat) (iJ:Env) (N:Nat) (D:List Deferred) (listed:Array Bool) (a:Act) (w:World):Prop where
 sW:listed.size=ops.size
 size:a.tmps.size=az
 defers:a.defers=D
 tA:∀k,listed.getD k false=true->posOf aF k<N
 down:q2 ops fun k=>listed.getD k false=true
 main:∃E s F,iJ.le E/\s ∈ fb/\s<=N/\(∀k o,ops[k]? =some o->eX P o=true->(listed.getD k false=true↔posOf aF k<s))/\
  (∀k o,ops[k]? =some o->hq o=true->listed.getD k false=true->posOf aF k<s)/\Holds aB F es aA aF (kM ops es aA aF listed s)/\bd F E (cv es aA s) w/\
  ∀t,t<=top->(∃k o e,listed.getD k false=true/\ops[k]? =some o/\o.dst=some t/\es[posOf aF k]? =some e/\Rel E e.v (a.tmps.getD t undef))\/
   ((∀k o,listed.getD k false=true->ops[k]? =some o->o.dst≠some t)/\Rel E (T.get .bad (aD t) ba) (a.tmps.getD t undef))
theorem tI {l:Array Bool} {i:Nat}:l.getD i false=true↔l[i]? =some true:=by
 rw [anY];cases l[i]? with
 | none=>simp
 | some b=>cases b<;>simp
theorem gq {l:Array Bool} {i k:Nat} (au:i<l.size):(l.setIfInBounds i true).getD k false=true↔(k=i\/l.getD k false=true):=by
 rw [tI,tI,anT];by_cases h:i=k
 . subst h;simp [au]
 . have:¬k=i:=fun e=>h e.symm;simp [h,this]
theorem D0 {r:bO} {t:Nat} (aE:t<=top):∀{l:List Oper},T.get .bad (aD t) (pj r l)=.bad\/(T.get .bad (aD t) (pj r l)=T.get .bad (aD t) r/\∀o ∈ l,o.dst≠some t)
 | []=>.inr ⟨rfl,fun o a1=>by simp at a1⟩
 | o::os=>by
   simp only [pj];cases aZ:o.dst with
   | none=>
     simp only;rcases D0 (r:=r) aE (l:=os) with h | ⟨J,ad⟩
     . exact .inl h
     . exact .inr ⟨J,fun cp ij=>by
        rcases an2.1 ij with rfl | ij
        . rw [aZ];simp
        . exact ad cp ij⟩
   | some d=>
     simp only;cases aj:Nat.ble d top with
     | true=>
       simp only [anC];rw [T.iN];by_cases vZ:d=t
       . subst vZ;rw [anL rfl];exact .inl rfl
       . rw [anE (fun e=>vZ (lE e))];rcases D0 (r:=r) aE (l:=os) with h | ⟨J,ad⟩
         . exact .inl h
         . exact .inr ⟨J,fun cp ij=>by
            rcases an2.1 ij with rfl | ij
            . rw [aZ];simpa using vZ
            . exact ad cp ij⟩
     | false=>
       simp only [anN];have vZ:d≠t:=fun e=>by subst e;rw [<-anS] at aE;rw [aE] at aj;cases aj
       rcases D0 (r:=r) aE (l:=os) with h | ⟨J,ad⟩
       . exact .inl h
       . exact .inr ⟨J,fun cp ij=>by
          rcases an2.1 ij with rfl | ij
          . rw [aZ];simpa using vZ
          . exact ad cp ij⟩
theorem DZ {r:bO}:∀{l:List Oper},T.get .bad fw (pj r l)=T.get .bad fw r
 | []=>rfl
 | o::os=>by
   simp only [pj];cases aZ:o.dst with
   | none=>exact DZ
   | some d=>
     simp only;cases aj:Nat.ble d top with
     | true=>
       simp only [anC];rw [T.iN,anE (w3 (an9 aj))];exact DZ
     | false=>exact DZ
theorem Ps {rd:Option Nat} {D:List Deferred} {aB:Fr} (aM:fa P) (db:∀i,hA P (calls i)) (eh:∀i,hI P (calls i)) (C:Cert P az ops calls es ba a6 dr aA fb order aF N M lit) {iJ:Env} {listed:Array Bool} {a:Act} {w:World} (I:q0 P aB az ops es ba aA fb aF iJ N D listed a w)
 {i:Nat} (au:i ∈ Region.ready .any ops listed) (acA:posOf aF i<M) (wb:lit=true->∀o k ok,ops[i]? =some o->l9 o=true->ops[k]? =some ok->l9 ok=true->posOf aF k<posOf aF i->listed.getD k false=true) {Q:Exit->Act->World->Prop} {K:Act->World->Prop} (dW:∀bw w',q0 P aB az ops es ba aA fb aF iJ N D (listed.setIfInBounds i true) bw w'->K bw w')
 (dX:∀ax bw w' x v ab,iJ.le ax->N<ops.size->ops.size<=M->(∃i0 iG,ops[i0]? =some iG/\posOf aF i0=N/\(cU P az ops iG).run (calls i0) dr aA=.c1 v ab)->RegRel0 ax az (pj ba ops.toList) bw->bw.defers=D->Rel ax v x->bd aB ax ab w'->Q (.panic (qK x)) bw w'):wpOpIn (cd rd) 0 P ops Q i K a w:=by
 rw [mem_ready] at au;obtain ⟨E,s,F,kb,aL,rB,ns,dx,kT,rA,wA⟩:=I.main;obtain ⟨tT,o,cP,v7⟩:=au;have fo:i<ops.size:=(anx.1 cP).1;have tU:¬listed.getD i false=true:=by rw [tI];intro h;rw [anY,h] at tT;simp at tT
 have QX:=Cb I.down ops.toList [] (fun j=>by simp) (fun k m j ay=>by simp at ay);have yk:q2 ops fun k=>listed.getD k false=true\/k=i:=by
  intro k ok e ay bz he aj;rcases ay with ay | rfl
  . exact .inl (I.down k ok e ay bz he aj)
  . rw [cP] at bz;cases bz;exact .inl (v7 e (ao6.1 he) (by rw [xW];exact aj))
 have acQ:=Cb yk ops.toList [] (fun j=>by simp) (fun k m j ay=>by simp at ay);obtain ⟨c',nu,jh,EB⟩:=C.n1 i o cP;have EB:=EB acA;have Ik:=C.Cg;have Bb:∀k,k≠i->gC c' k=true->listed.getD k false=true:=by
  intro k ay aj;rcases acQ i c' k nu aj (.inr rfl) with h | h
  . exact h
  . exact absurd h ay
 have kA:=(C.iV i fo).1;have ac7:posOf aF i<=N:=by
  rcases aoG N (posOf aF i) with acw | hle
  . exfalso;have Ek:ops.size<=M:=by
     rcases aoG M ops.size with h | h
     . have:=(C.tail h).1;omega
     . exact h
    obtain ⟨i0,iG,m0,da,z2,z3,z4,z5,_⟩:=C.stop (by omega) Ek;have aj:=z5 i o c' cP acw nu;have J:=Bb i0 (fun e=>by subst e;omega) aj;have:=I.tA i0 J;omega
  . exact hle
 have uniq:∀(k bu:Nat) (ok lC:Oper) (t:Nat),ops[k]? =some ok->ops[bu]? =some lC->posOf aF k<M->posOf aF bu<M->ok.dst=some t->lC.dst=some t->k=bu:=by
  intro k bu ok lC t J ad b9 cA aC bn;obtain ⟨mk,_,_,ak⟩:=C.n1 k ok J;obtain ⟨mk',_,iQ,_⟩:=ak b9 bu lC ad cA;unfold pL at iQ;rw [h_] at iQ;by_cases jg:k=bu
  . exact jg
  . rw [anE jg,bn,aC] at iQ;simp at iQ
 have T1:js (b2 ops o)=true->∀t ∈ b2 ops o,Rel E (T.get .bad (aD t) (e8 es dr (posOf aF i))) (a.tmps.getD t undef):=by
  intro jY t aE;have rE:t<=top:=by have:=an0.1 jY t aE;exact an9 this
  have Tl:∀(k:Nat) (ok:Oper),k≠i->posOf aF k<M->ops[k]? =some ok->ok.dst=some t->∃mk,(fp [] ops.toList)[k]? =some mk/\(posOf aF k<posOf aF i->gC c' k=true)/\(¬posOf aF k<posOf aF i->gC mk i=true):=by
   intro k ok ay IS bz aZ;obtain ⟨mk,ag,av,_⟩:=EB k ok bz IS;refine ⟨mk,ag,?_⟩;unfold pL at av;rw [h_,anE (fun e=>ay e.symm),aZ] at av;simp only [anu] at av;have aJ:=av.1;rw [show (b2 ops o).contains t=true from by simpa using aE] at aJ;simp only [anC] at aJ;refine ⟨fun aH=>?_,fun kx=>?_⟩
   . rw [show Nat.blt (posOf aF k) (posOf aF i)=true from by rw [aoa];exact aH] at aJ;exact aJ
   . rw [show Nat.blt (posOf aF k) (posOf aF i)=false from by rw [<-aof,aoa];exact kx] at aJ;exact aJ
  rcases C.KS (posOf aF i) ac7 t rE with ⟨k,ok,DV,ag,av,aJ,bU,cX⟩ | ⟨ag,av⟩
  . obtain ⟨mk,_,dc,_⟩:=Tl k ok (fun e=>by subst e;omega) (by omega) av aJ;have acO:=Bb k (fun e=>by subst e;omega) (dc ag);rcases wA t rE with ⟨bu,lC,HL,ct,cy,fj,kF,qJ⟩ | ⟨ct,_⟩
    . have:=uniq k bu ok lC t av cy (by omega) (by have:=I.tA bu ct;omega) aJ fj;subst this;rw [bU] at kF;cases kF;rw [cX];exact qJ
    . exact absurd aJ (ct k ok acO av)
  . rcases wA t rE with ⟨bu,lC,HL,ct,cy,fj,kF,qJ⟩ | ⟨_,cy⟩
    . have ho:bu≠i:=fun e=>tU (e ▸ ct);obtain ⟨mk,m1,_,c0⟩:=Tl bu lC ho (by have:=I.tA bu ct;omega) cy fj;by_cases aH:posOf aF bu<posOf aF i
      . exact absurd fj (ag bu lC aH cy)
      . exact absurd (QX bu mk i m1 (c0 aH) ct) tU
    . rw [av];exact cy
 have level:fy P o.op=true->s<=posOf aF i->s=posOf aF i/\hq o=false:=by
  intro mF hle;rcases C.UQ s aL with (h | ⟨h,Ej⟩) | ⟨k,ok,bX,b_,dY⟩
  . omega
  . omega
  . have Q2:¬listed.getD k false=true:=fun h=>by have:=(ns k ok bX b_).1 h;omega
    have qp:=(anx.1 bX).1;by_cases ho:k=i
    . subst ho;rw [cP] at bX;cases bX;refine ⟨dY,?_⟩;unfold eX at b_;simpa [mF] using b_
    . have aH:posOf aF k<posOf aF i:=by
       have:posOf aF k≠posOf aF i:=fun e=>ho (C.w5 qp fo e);omega
      obtain ⟨mk,_,_,aJ⟩:=EB k ok bX (by omega);rcases aJ mF b_ aH with h | ⟨g1,g2,g3⟩
      . exact absurd (Bb k ho h) Q2
      . exact absurd (wb g1 o k ok cP g2 bX g3 aH) Q2
 rcases aoG (posOf aF i) N with IY | amq
 case inr=>
  have lp:posOf aF i=N:=by omega
  have Ek:ops.size<=M:=by
   rcases aoG M ops.size with h | h
   . have:=(C.tail h).1;omega
   . exact h
  obtain ⟨i0,iG,m0,da,z2,z3,z4,z5,alU,v,ab,Lw⟩:=C.stop (by omega) Ek;have acC:i0=i:=C.w5 (anx.1 da).1 fo (by rw [z2,lp]);subst acC;rw [cP] at da;cases da;rw [nu] at z4;cases z4;obtain ⟨mF,acW⟩:=SK z3;have yq:eX P o=true:=by unfold eX;rw [mF,acW];rfl
  have sK:s<=posOf aF i0:=by
   rcases aoG (posOf aF i0) s with h | h
   . exact absurd ((ns i0 o cP yq).2 h) tU
   . exact h
  have yN:=(level mF sK).1;have tK:F=aB:=kT.none fun k ay=>by
   obtain ⟨ok,ag,av,aJ,bU⟩:=ay;have ho:k≠i0:=fun e=>by subst e;omega
   exact aJ (Bb k ho (alU k ok ag av.1 (by omega)))
  subst tK;have ec:es[N]? =none:=an3 (by rw [C.len];exact anD _);have lq:=T1 (Pk Lw).2;rw [lp] at lq;simp only [e8,ec] at lq;rw [yN,lp] at rA;simp only [cv,ec] at rA;refine Z_ aM (db i0) (eh i0) cP Lw z3 I.size lq rA fun ax x w' ag av aJ=>dX ax a w' x v ab (kb.trans ag) (by omega) Ek ⟨i0,o,cP,lp,Lw⟩ ⟨I.size,fun t aE=>?_⟩ I.defers av aJ;rcases D0 (r:=ba) aE (l:=ops.toList) with h | ⟨J,ad⟩
  . rw [h];simp [Rel]
  . rw [J];rcases wA t aE with ⟨k,ok,DV,ct,cy,fj,kF,qJ⟩ | ⟨ct,cy⟩
    . exact absurd fj (ad ok (by rw [<-apa] at cy;exact aob cy))
    . exact Rel.mono ag _ _ cy
 obtain ⟨e,rl,dh,amD⟩:=C.step i o cP IY;have hZ:=k9 dh;have fm:e8 es dr (posOf aF i)=e.r:=by simp [e8,rl]
 have ih:cv es aA (posOf aF i)=e.h:=by simp [cv,rl]
 have reads:=T1 hZ.2;rw [fm] at reads;have gS:i<listed.size:=by rw [I.sW];exact fo
 have after:∀(h6:Nat) (dn:Fr) (ax:Env) (x:Value) (w':World),h6 ∈ fb->h6<=N->(∀k ok,ops[k]? =some ok->eX P ok=true->((k=i\/listed.getD k false=true)↔posOf aF k<h6))->
  (∀k ok,ops[k]? =some ok->hq ok=true->(k=i\/listed.getD k false=true)->posOf aF k<h6)->
  Holds aB dn es aA aF (kM ops es aA aF (listed.setIfInBounds i true) h6)->E.le ax->Rel ax e.v x->bd dn ax (cv es aA h6) w'->
  q0 P aB az ops es ba aA fb aF iJ N D (listed.setIfInBounds i true) (a.put o.dst x) w':=by
  intro h6 dn ax x w' kg adq gu abZ acx hle ar ado
  refine ⟨by simp [I.sW],by cases h:o.dst<;>simp [Act.put,I.size],by cases h:o.dst<;>simp [Act.put,I.defers],fun k ay=>by
   rcases (gq gS).1 ay with rfl | ay
   . exact IY
   . exact I.tA k ay,?_,ax,h6,dn,kb.trans hle,kg,adq,fun k ok J ad=>by rw [gq gS];exact gu k ok J ad,
   fun k ok J ad aC=>abZ k ok J ad ((gq gS).1 aC),acx,ado,fun t aE=>?_⟩
  . intro k ok dL ay bz eW aj;rw [gq gS] at ay ⊢;rcases yk k ok dL ay.symm bz eW aj with h | h
    . exact .inr h
    . exact .inl h
  . by_cases aZ:o.dst=some t
    . refine .inl ⟨i,o,e,by rw [gq gS];exact .inl rfl,cP,aZ,rl,?_⟩;have aH:t<a.tmps.size:=by
       have:=hZ.1;rw [aZ] at this;simp only [fO,anu,aoa] at this;rw [I.size];exact this.1
      rw [aZ];simp only [Act.put];rw [anY,anT,anL rfl,anL aH];exact ar
    . have eP:(a.put o.dst x).tmps.getD t undef=a.tmps.getD t undef:=by
       cases ac1:o.dst with
       | none=>rfl
       | some d=>
         simp only [Act.put];rw [anY,anY,anT,anE (fun e=>aZ (by rw [ac1,e]))]
      rw [eP];rcases wA t aE with ⟨k,ok,DV,ct,cy,fj,kF,qJ⟩ | ⟨ct,cy⟩
      . exact .inl ⟨k,ok,DV,by rw [gq gS];exact .inr ct,cy,fj,kF,Rel.mono hle _ _ qJ⟩
      . refine .inr ⟨fun k ok ay bz=>?_,Rel.mono hle _ _ cy⟩;rw [gq gS] at ay;rcases ay with rfl | ay
        . rw [cP] at bz;cases bz;exact aZ
        . exact ct k ok ay bz
 have ID:¬(hq o=true/\Made es aA aF i)->∀h6 k,kM ops es aA aF (listed.setIfInBounds i true) h6 k↔kM ops es aA aF listed h6 k:=by
  intro bF h6 k;constructor
  . rintro ⟨ok,ag,av,aJ,bU⟩;exact ⟨ok,ag,av,fun h=>aJ ((gq gS).2 (.inr h)),bU⟩
  . rintro ⟨ok,ag,av,aJ,bU⟩;refine ⟨ok,ag,av,fun h=>?_,bU⟩;rcases (gq gS).1 h with rfl | h
    . rw [cP] at ag;cases ag;exact bF av
    . exact aJ h
 cases mF:fy P o.op with
 | true=>
   cases bF:hq o with
   | true=>
     have aH:posOf aF i<s:=by
      rcases aoG (posOf aF i) s with h | h
      . exact h
      . have:=(level mF h).2;rw [bF] at this;cases this
     by_cases hm:Made es aA aF i
     case neg=>
      have Jh:(cU P az ops o).run (calls i) e.r (cv es aA s)=.val e.v (cv es aA s):=by
       rcases Pm bF dh with ⟨dB,bX,_⟩ | ⟨_,bX⟩
       . exact absurd (show Made es aA aF i from by unfold Made;rw [bX,ih];exact Nat.succ_ne_self _) hm
       . exact bX _
      refine q_ aM (db i) (eh i) cP Jh I.size reads rA fun ax x w' ag av aJ=>dW _ _ (after s F ax x w' aL rB (fun k ok bz jG=>?_) (fun k ok bz qo ay=>?_) (kT.congr fun k=>ID (fun h=>hm h.2) s k) ag av aJ)
      . constructor
        . rintro (rfl | h)
          . rw [cP] at bz;cases bz;unfold eX at jG;rw [bF] at jG;simp at jG
          . exact (ns k ok bz jG).1 h
        . intro h;exact .inr ((ns k ok bz jG).2 h)
      . rcases ay with rfl | ay
        . exact aH
        . exact dx k ok bz qo ay
     have np:kM ops es aA aF listed s i:=⟨o,cP,⟨bF,hm⟩,tU,aH⟩;have I0:(cv es aA (posOf aF i+1)).next≠e.h.next:=by rw [<-ih];exact hm
     have l6:nameAt es aA aF i=aD e.h.next:=by unfold nameAt;rw [ih]
     have nw:=(kT.new i np).1;have yU:=(kT.new i np).2;have n5:AE es aA aF i=(cv es aA (posOf aF i+1)).get (aD e.h.next):=by unfold AE;rw [l6]
     rw [l6,n5] at nw;refine Z9 cP bF dh I.size reads rA I0 nw fun ax x w' ag av aJ=>dW _ _ (after s (F.free (aD e.h.next)) ax x w' aL rB (fun k ok bz jG=>?_) (fun k ok bz qo ay=>?_) ?_ ag av aJ)
     . constructor
       . rintro (rfl | h)
         . rw [cP] at bz;cases bz;unfold eX at jG;rw [bF] at jG;simp at jG
         . exact (ns k ok bz jG).1 h
       . intro h;exact .inr ((ns k ok bz jG).2 h)
     . rcases ay with rfl | ay
       . exact aH
       . exact dx k ok bz qo ay
     . have sub:∀k,kM ops es aA aF (listed.setIfInBounds i true) s k->kM ops es aA aF listed s k/\k≠i:=by
        rintro k ⟨ok,ag,av,aJ,bU⟩;refine ⟨⟨ok,ag,av,fun h=>aJ ((gq gS).2 (.inr h)),bU⟩,fun e=>aJ ((gq gS).2 (.inl e))⟩
       refine ⟨kT.w,fun b aj=>?_,fun k ay=>?_,fun k bu ay iz=>kT.inj k bu (sub k ay).1 (sub bu iz).1⟩
       . by_cases vT:b=aD e.h.next
         . subst vT;simp only [Fr.free,an7];rw [<-l6,yU]
         . simp only [Fr.free,anE vT];refine kT.cJ b fun k ay=>?_;by_cases ho:k=i
           . subst ho;rw [l6];exact fun e=>vT e.symm
           . obtain ⟨ok,ag,av,aJ,bU⟩:=ay;refine aj k ⟨ok,ag,av,fun h=>?_,bU⟩;rcases (gq gS).1 h with h | h
             . exact ho h
             . exact aJ h
       . obtain ⟨QL,ho⟩:=sub k ay;have eC:nameAt es aA aF k≠aD e.h.next:=fun e=>ho (kT.inj k i QL np (by rw [e,l6]))
         simp only [Fr.free,anE eC];exact kT.new k QL
   | false=>
     have yq:eX P o=true:=by unfold eX;rw [mF,bF];rfl
     have sK:s<=posOf aF i:=by
      rcases aoG (posOf aF i) s with h | h
      . exact absurd ((ns i o cP yq).2 h) tU
      . exact h
     have yN:=(level mF sK).1;rw [<-ih,<-yN] at dh;refine q_ aM (db i) (eh i) cP dh I.size reads rA fun ax x w' ag av aJ=>?_;rw [yN] at aJ;have acN:∀k ok,ops[k]? =some ok->hq ok=true->posOf aF i+1<=posOf aF k->¬(listed.setIfInBounds i true).getD k false=true:=by
      intro k ok bz qo ak h;rcases (gq gS).1 h with rfl | h
      . omega
      . have:=dx k ok bz qo h;omega
     have acz:Holds aB F es aA aF (kM ops es aA aF (listed.setIfInBounds i true) (posOf aF i+1)):=by
      refine kT.congr fun k=>?_;rw [ID (fun h=>by rw [bF] at h;cases h.1)];constructor
      . rintro ⟨ok,da,z2,z3,z4⟩;refine ⟨ok,da,z2,z3,?_⟩;have qp:=(anx.1 da).1;have:posOf aF k≠posOf aF i:=fun e=>by
         have:=C.w5 qp fo e;subst this;rw [cP] at da;cases da;rw [bF] at z2;cases z2.1
        omega
      . rintro ⟨ok,da,z2,z3,z4⟩;exact ⟨ok,da,z2,z3,by omega⟩
     obtain ⟨h6,dn,g1,g2,g3,g4,g5,g6⟩:=C.advance (N - (posOf aF i+1)) (posOf aF i+1) (by omega) acN F acz aJ;refine dW _ _ (after h6 dn ax x w' g1 g3 (fun k ok bz jG=>?_) (fun k ok bz qo ay=>?_) g5 ag av g6)
     . have qp:=(anx.1 bz).1;constructor
       . rintro (rfl | h)
         . omega
         . have:=(ns k ok bz jG).1 h;omega
       . intro h;by_cases ho:k=i
         . exact .inl ho
         . refine .inr ((ns k ok bz jG).2 ?_);rcases aoG (posOf aF k) s with bp | bp
           . exact bp
           . have eC:posOf aF k≠posOf aF i:=fun e=>ho (C.w5 qp fo e);have:=g4 k ok bz jG (by omega);omega
     . rcases ay with rfl | ay
       . omega
       . have:=dx k ok bz qo ay;omega
 | false=>
   have bF:hq o=false:=by
    cases h:hq o with
    | false=>rfl
    | true=>rw [ad4 h] at mF;cases mF
   obtain ⟨c,ao,Jh⟩:∃c,(hA P c/\hI P c)/\(cU P az ops o).run c e.r (cv es aA s)=.val e.v (cv es aA s):=by
    cases eB:looks o.op with
    | false=>exact ⟨_,⟨db i,eh i⟩,(vB mF dh).2 eB _⟩
    | true=>
      obtain ⟨dL,ag,av⟩:=C.ask i o cP eB mF IY;rw [rl] at ag;cases ag
      obtain ⟨c,ab,ao,aJ⟩:=av s aL (Lx (by rw [J'];simp) fun k mk ok J ad=>by
       simp only [an8];have bz:ops[k]? =some ok:=by simpa using ad
       cases we:eX P ok with
       | false=>rfl
       | true=>
         simp only [anC];cases yz:Nat.blt (posOf aF k) s with
         | true=>
           rw [aoa] at yz;simp only [anC,aoB];cases aj:gC mk i with
           | false=>rfl
           | true=>exact absurd (QX k mk i J aj ((ns k ok bz we).2 yz)) tU
         | false=>
           have acI:¬posOf aF k<s:=by rw [<-aoa,yz];simp
           simp only [anN,aoB,nu,aoZ];cases aj:gC c' k with
           | false=>rfl
           | true=>
             by_cases ho:k=i
             . subst ho;rw [cP] at bz;cases bz;unfold eX at we;rw [mF] at we;cases we
             . exact absurd ((ns k ok bz we).1 (Bb k ho aj)) acI)
      rw [(vB mF aJ).1] at aJ;exact ⟨c,ao,aJ⟩
   refine q_ aM ao.1 ao.2 cP Jh I.size reads rA fun ax x w' ag av aJ=>dW _ _ (after s F ax x w' aL rB (fun k ok bz jG=>?_) (fun k ok bz qo ay=>?_) (kT.congr fun k=>ID (fun h=>by rw [bF] at h;cases h.1) s k) ag av aJ)
   . constructor
     . rintro (rfl | h)
       . rw [cP] at bz;cases bz;unfold eX at jG;rw [mF] at jG;cases jG
       . exact (ns k ok bz jG).1 h
     . intro h;exact .inr ((ns k ok bz jG).2 h)
   . rcases ay with rfl | ay
     . rw [cP] at bz;cases bz;rw [bF] at qo;cases qo
     . exact dx k ok bz qo ay
theorem Pj {D:List Deferred} {aB:Fr} (C:Cert P az ops calls es ba a6 dr aA fb order aF N M lit) {iJ:Env} (Ik:N<=M) {listed:Array Bool} {a:Act} {w:World} (I:q0 P aB az ops es ba aA fb aF iJ N D listed a w)
 (dx:∀k,k<ops.size->posOf aF k<N->listed.getD k false=true):∃ax,iJ.le ax/\RegRel0 ax az dr a/\a.defers=D/\bd aB ax aA w:=by
 obtain ⟨E,s,F,kb,aL,rB,ns,_,kT,rA,wA⟩:=I.main;have ec:es[N]? =none:=an3 (by rw [C.len];exact anD _);have wa:cv es aA N=aA:=by simp [cv,ec]
 have Rc:e8 es dr N=dr:=by simp [e8,ec]
 have yN:s=N:=by
  rcases C.UQ s aL with (h | ⟨h,_⟩) | ⟨k,ok,bX,b_,dY⟩
  . have:=C.Cf;omega
  . exact h
  . rcases aoG s N with aH | kx
    . have:=(ns k ok bX b_).1 (dx k (anx.1 bX).1 (by omega));omega
    . omega
 subst yN;have tK:F=aB:=kT.none fun k ay=>by obtain ⟨ok,ag,av,aJ,bU⟩:=ay;exact aJ (dx k (anx.1 ag).1 bU)
 subst tK;rw [wa] at rA;have Ej:∀k,posOf aF k<s->posOf aF k<M:=fun k h=>by omega
 refine ⟨E,kb,⟨I.size,fun t aE=>?_⟩,I.defers,rA⟩;have adz:∀(k bu:Nat) (ok lC:Oper),ops[k]? =some ok->ops[bu]? =some lC->posOf aF k<s->posOf aF bu<s->ok.dst=some t->lC.dst=some t->k=bu:=by
  intro k bu ok lC J ad b9 cA aC bn;obtain ⟨mk,_,_,ak⟩:=C.n1 k ok J;obtain ⟨mk',_,iQ,_⟩:=ak (Ej k b9) bu lC ad (Ej bu cA);unfold pL at iQ;rw [h_] at iQ;by_cases jg:k=bu
  . exact jg
  . rw [anE jg,bn,aC] at iQ;simp at iQ
 rcases C.KS s (anD _) t aE with ⟨k,ok,DV,ag,av,aJ,bU,cX⟩ | ⟨ag,av⟩
 . rw [Rc] at cX;rcases wA t aE with ⟨bu,lC,HL,ct,cy,fj,kF,qJ⟩ | ⟨ct,_⟩
   . have:=adz k bu ok lC av cy ag (I.tA bu ct) aJ fj;subst this;rw [bU] at kF;cases kF;rw [cX];exact qJ
   . exact absurd aJ (ct k ok (dx k (anx.1 av).1 ag) av)
 . rw [Rc] at av;rcases wA t aE with ⟨bu,lC,HL,ct,cy,fj,kF,qJ⟩ | ⟨_,cy⟩
   . exact absurd fj (ag bu lC (I.tA bu ct) cy)
   . rw [av];exact cy
theorem Pr {rd:Option Nat} {D:List Deferred} {aB:Fr} (aM:fa P) (db:∀i,hA P (calls i)) (eh:∀i,hI P (calls i)) (C:Cert P az ops calls es ba a6 dr aA fb order aF N M false) {iJ:Env} {Q:Exit->Act->World->Prop}
 (dX:N=ops.size->∀ax bw w',iJ.le ax->RegRel0 ax az dr bw->bw.defers=D->bd aB ax aA w'->Q .normal bw w')
 (hC:∀ax bw w' x v ab,iJ.le ax->N<ops.size->ops.size<=M->(∃i0 iG,ops[i0]? =some iG/\posOf aF i0=N/\(cU P az ops iG).run (calls i0) dr aA=.c1 v ab)->RegRel0 ax az (pj ba ops.toList) bw->bw.defers=D->Rel ax v x->bd aB ax ab w'->Q (.panic (qK x)) bw w')
 (eu:M<ops.size->∀(fuel:Nat) (listed:Array Bool) ax bw w',(List.range ops.size).countP (fun i=>!listed.getD i false)<=fuel->listed.size=ops.size->q2 ops (fun k=>listed.getD k false=true)->(∀k,k<ops.size->(listed.getD k false=true↔posOf aF k<N))->
   iJ.le ax->RegRel0 ax az dr bw->bw.defers=D->bd aB ax aA w'->wpAnyIn (cd rd) 0 P .any ops Q fuel listed bw w'):∀(fuel:Nat) (listed:Array Bool) (a:Act) (w:World),(List.range ops.size).countP (fun i=>!listed.getD i false)<=fuel->
 q0 P aB az ops es ba aA fb aF iJ N D listed a w->wpAnyIn (cd rd) 0 P .any ops Q fuel listed a w:=by
 have done:∀(listed:Array Bool) (a:Act) (w:World),q0 P aB az ops es ba aA fb aF iJ N D listed a w->Region.ready .any ops listed=[]->∀i,i<ops.size->listed.getD i false=true:=by
  intro listed a w I aK i
  induction i using Nat.strongRecOn with
  | _ i bC=>
    intro au;cases gS:listed.getD i false with
    | true=>rfl
    | false=>
      exfalso;have cP:ops[i]? =some ops[i]:=anQ au;obtain ⟨c',_,jh,_⟩:=C.n1 i _ cP;have:i ∈ Region.ready .any ops listed:=by
       rw [mem_ready];refine ⟨?_,ops[i],cP,fun e he aj=>?_⟩
       . have cx:i<listed.size:=by rw [I.sW];exact au
         rw [anY,anQ cx] at gS ⊢;exact gS
       . have J:=an0.1 jh e (ao6.2 he);rw [xW] at aj;rw [aj] at J;simp only [Bool.not_true,apd,aoa] at J;exact bC e.on J (by omega)
      rw [aK] at this;simp at this
 have Ik:=C.Cg;have full:∀(listed:Array Bool) (a:Act) (w:World),q0 P aB az ops es ba aA fb aF iJ N D listed a w->(∀k,k<ops.size->posOf aF k<N->listed.getD k false=true)->(N=ops.size\/(M<ops.size/\M=N))->
  ∃ax,iJ.le ax/\RegRel0 ax az dr a/\a.defers=D/\bd aB ax aA w:=fun _ _ _ I dx _=>Pj C Ik I dx
 have finish:∀(listed:Array Bool) (a:Act) (w:World),q0 P aB az ops es ba aA fb aF iJ N D listed a w->Region.ready .any ops listed=[]->Q .normal a w:=by
  intro listed a w I aK;have dx:=done listed a w I aK;have Il:N=ops.size:=by
   rcases aoG N ops.size with aH | kx
   . exfalso;obtain ⟨i,dd,gR⟩:=C.mj N aH;have:=I.tA i (dx i dd);omega
   . exact Nat.le_antisymm C.Cf kx
  obtain ⟨ax,g1,g2,g3,g4⟩:=full listed a w I (fun k ay _=>dx k ay) (.inl Il);exact dX Il ax a w g1 g2 g3 g4
 intro fuel
 induction fuel with
 | zero=>
   intro listed a w ao I;have dx:∀i,i<ops.size->listed.getD i false=true:=by
    intro i au;have a6:(List.range ops.size).countP (fun i=>!listed.getD i false)=0:=by omega
    rw [List.countP_eq_zero] at a6;simpa using a6 i (ao9.2 au)
   have aK:Region.ready .any ops listed=[]:=by
    cases aq:Region.ready .any ops listed with
    | nil=>rfl
    | cons j aei=>
      exfalso;have bI:j ∈ Region.ready .any ops listed:=by rw [aq];simp
      rw [mem_ready] at bI;obtain ⟨J,o,ad,_⟩:=bI;have:=dx j (anx.1 ad).1;rw [tI] at this;rw [anY,this] at J;simp at J
   exact ⟨aK,finish listed a w I aK⟩
 | succ fuel bC=>
   intro listed a w ao I;by_cases yR:M<ops.size/\∀k,k<ops.size->posOf aF k<N->listed.getD k false=true
   . obtain ⟨vQ,dx⟩:=yR;obtain ⟨ax,g1,g2,g3,g4⟩:=full listed a w I dx (.inr ⟨vQ,(C.tail vQ).1⟩);exact eu vQ (fuel+1) listed ax a w ao I.sW I.down (fun k ay=>⟨I.tA k,dx k ay⟩) g1 g2 g3 g4
   have Jc:∀i,i ∈ Region.ready .any ops listed->posOf aF i<M:=by
    intro i au;have gR:=au;rw [mem_ready] at gR;obtain ⟨J,o,ad,v7⟩:=gR;have fo:i<ops.size:=(anx.1 ad).1;rcases aoG M ops.size with vQ | vQ
    . obtain ⟨Ej,yQ⟩:=C.tail vQ;rcases aoG (posOf aF i) N with aH | kx
      . omega
      . exfalso;refine yR ⟨vQ,fun k ay IT=>?_⟩;obtain ⟨c',nu,_⟩:=C.n1 i o ad;have aj:=yQ i o c' ad kx nu k ay IT;have yk:q2 ops fun k=>listed.getD k false=true\/k=i:=by
         intro k ok e ay bz he aj;rcases ay with ay | rfl
         . exact .inl (I.down k ok e ay bz he aj)
         . rw [ad] at bz;cases bz;exact .inl (v7 e (ao6.1 he) (by rw [xW];exact aj))
        rcases Cb yk ops.toList [] (fun j=>by simp) (fun k m j ay=>by simp at ay) i c' k nu aj (.inr rfl) with h | h
        . exact h
        . subst h;omega
    . have:=(C.iV i fo).1;omega
   refine ⟨fun aK=>finish listed a w I aK,fun i au=>?_⟩;refine Ps aM db eh C I au (Jc i au) (fun h=>by cases h) (fun bw w' Gw=>bC _ bw w' ?_ Gw) hC;have gR:=au;rw [mem_ready] at gR;obtain ⟨J,o,ad,_⟩:=gR;have fo:i<ops.size:=(anx.1 ad).1;have gS:i<listed.size:=by rw [I.sW];exact fo
   have tU:listed.getD i false=false:=by rw [anY,anQ gS] at J ⊢;exact J
   have:=DP (fun k=>!listed.getD k false) (fun k=>!(listed.setIfInBounds i true).getD k false) (List.range ops.size)
    (fun k _ ay=>by
      simp only [aoB] at ay ⊢;cases aq:listed.getD k false with
      | false=>rfl
      | true=>
        have:=(gq (k:=k) gS).2 (.inr aq);rw [ay] at this;cases this)
    ⟨i,ao9.2 fo,by simp [tU],by have:=(gq (k:=i) gS).2 (.inl rfl);simp [this]⟩
   omega
theorem ah.set_comm (h:ah) {b bV:aU} (eC:b≠bV) (k bu:cn):(h.set b k).set bV bu=(h.set bV bu).set b k:=by unfold ah.set;simp only;rw [T.put_comm _ _ _ _ _ _ (fun e=>eC e.symm)]
theorem La {o:Oper} {x:Operand} (h:tb o=some x):∃t y,o.op=.store t x y/\o.dst=none/\o.guard=none:=by
 unfold tb at h
 split at h
 case h_2=>cases h
 rename_i t Vr y a1
 split at h
 case h_2=>cases h
 rename_i aZ
 split at h
 case h_2=>cases h
 rename_i an;cases h;exact ⟨t,y,a1,aZ,an⟩
theorem agJ {h ab:ah} {b:aU} {off:Nat} {ai:List V} (he:lay h b off ai=some ab):∃k,ab=h.set b k/\∀H:ah,H.get b=h.get b->lay H b off ai=some (H.set b k):=by
 unfold lay at he ⊢;cases an:h.get b<;>rw [an] at he<;>simp only [cn.on] at he<;>try (cases he;done)
 obtain ⟨ao,J⟩:=fg he;cases J;refine ⟨_,rfl,fun H np=>?_⟩;rw [np];simp only [cn.on,ao,anC]
theorem Po {all:Array Oper} {o:Oper} {x:Operand} {call:eA} {r:bO} {h ab:ah} {v:V} (ar:tb o=some x) (he:(cU P az all o).run call r h=.val v ab):
 ∃b off k,(bZ x).run (dM r (b2 all o))=.ptr b off/\ab=h.set b k/\∀H:ah,H.get b=h.get b->(cU P az all o).run call r H=.val v (H.set b k):=by
 obtain ⟨t,y,a1,aZ,an⟩:=La ar;obtain ⟨J,ad⟩:=k9 he;have key:cU P az all o=⟨jW none (fW P o) (b2 all o)⟩:=by unfold cU;rw [show (fO az o.dst&&js (b2 all o))=true from by rw [J,ad];rfl,an];rfl
 rw [key] at he ⊢;simp only [jW] at he ⊢;have vV:∀H,(fW P o).run call (dM r (b2 all o)) H=hF .bad ((ta P t).run H ((bZ x).run (dM r (b2 all o))) ((bZ y).run (dM r (b2 all o)))):=by intro H;unfold fW;rw [a1]
 rw [vV] at he;cases aL:(ta P t).run h ((bZ x).run (dM r (b2 all o))) ((bZ y).run (dM r (b2 all o))) with
 | none=>rw [aL] at he;cases he
 | some aC=>
   rw [aL] at he;simp only [hF,a8.val.injEq] at he;obtain ⟨rfl,rfl⟩:=he;unfold ta at aL;cases aE:bg P t with
   | none=>rw [aE] at aL;cases aL
   | some aO=>
     rw [aE] at aL;simp only [r0] at aL;obtain ⟨b,off,ak,bn⟩:=zo aL;obtain ⟨ao,b0⟩:=fg bn;obtain ⟨k,bX,b_⟩:=agJ b0;refine ⟨b,off,k,ak,bX,fun H np=>?_⟩;rw [vV];unfold ta;rw [aE];simp only [r0,ak,V.j0,ao,anC,b_ H np,hF]
theorem zs {listed:Array Bool} (jh:∀i o,ops[i]? =some o->nG i o=true) (cx:listed.size=ops.size) (aK:Region.ready .any ops listed=[]):∀i,i<ops.size->listed.getD i false=true:=by
 intro i
 induction i using Nat.strongRecOn with
 | _ i bC=>
   intro au;cases gS:listed.getD i false with
   | true=>rfl
   | false=>
     exfalso;have cP:ops[i]? =some ops[i]:=anQ au;have jh:=jh i _ cP;have:i ∈ Region.ready .any ops listed:=by
      rw [mem_ready];refine ⟨?_,ops[i],cP,fun e he aj=>?_⟩
      . have aL:i<listed.size:=by rw [cx];exact au
        rw [anY,anQ aL] at gS ⊢;exact gS
      . have J:=an0.1 jh e (ao6.2 he);rw [xW] at aj;rw [aj] at J;simp only [Bool.not_true,apd,aoa] at J;exact bC e.on J (by omega)
     rw [aK] at this;simp at this
theorem xa {listed:Array Bool} {i:Nat} (al1:listed.size=ops.size) (au:i ∈ Region.ready .any ops listed):i<ops.size/\¬listed.getD i false=true:=by rw [mem_ready] at au;obtain ⟨J,o,ad,_⟩:=au;refine ⟨(anx.1 ad).1,fun h=>?_⟩;rw [tI] at h;rw [anY,h] at J;simp at J
theorem Lc {rd:Option Nat} {aB:Fr} (aM:fa P) (db:hA P call) (eh:hI P call) (jh:∀i o,ops[i]? =some o->nG i o=true) {i:Nat} {o:Oper} (cP:ops[i]? =some o) (aZ:o.dst=none) {r:bO} {h ab:ah} {v:V}
 (he:(cU P az ops o).run call r h=.val v ab) {Q:Exit->Act->World->Prop} {E:Env} {a:Act} {w:World} (k:fZ E az r a) (s:bd aB E h w) (dX:∀ax w',E.le ax->bd aB ax ab w'->Q .normal a w')
 {listed:Array Bool} (cx:listed.size=ops.size) (dx:∀j,j<ops.size->(listed.getD j false=true↔j≠i)) (fuel:Nat) (aA:1<=fuel):wpAnyIn (cd rd) 0 P .any ops Q fuel listed a w:=by
 have fo:i<ops.size:=(anx.1 cP).1;have gS:i<listed.size:=by rw [cx];exact fo
 cases fuel with
 | zero=>omega
 | succ fuel=>
   refine ⟨fun aK=>absurd (zs jh cx aK i fo) (fun h=>((dx i fo).1 h) rfl),fun j bI=>?_⟩;obtain ⟨BP,wL⟩:=xa cx bI;have acE:j=i:=by
    rcases Nat.decEq j i with eC | he
    . exact absurd ((dx j BP).2 eC) wL
    . exact he
   subst acE;refine q_ aM db eh cP he k.size (fun t aE=>k.af t (an9 (an0.1 (k9 he).2 t aE))) s fun ax x w' ag av aJ=>?_;rw [aZ];refine wpAnyIn_done ?_ (dX ax w' ag aJ) fuel;cases aK:Region.ready .any ops (listed.setIfInBounds j true) with
   | nil=>rfl
   | cons m ms=>
     exfalso;have hm:m ∈ Region.ready .any ops (listed.setIfInBounds j true):=by rw [aK];simp
     obtain ⟨m1,m2⟩:=xa (by simp [cx]) hm;refine m2 ((gq gS).2 ?_);by_cases QY:m=j
     . exact .inl QY
     . exact .inr ((dx m m1).2 QY)
theorem akO {rd:Option Nat} {aB:Fr} (aM:fa P) (db:hA P call) (eh:hI P call) (jh:∀i o,ops[i]? =some o->nG i o=true) {i j:Nat} {o p:Oper} (cP:ops[i]? =some o) (oV:ops[j]? =some p) (rq:i≠j) (aZ:o.dst=none) (nw:p.dst=none)
 {r:bO} {h J fD ad:ah} {v c_ u e1:V} (he:(cU P az ops o).run call r h=.val v J) (ak:(cU P az ops p).run call r J=.val u ad) (hQ:(cU P az ops p).run call r h=.val e1 fD) (eW:(cU P az ops o).run call r fD=.val c_ ad)
 {Q:Exit->Act->World->Prop} {E:Env} {a:Act} {w:World} (k:fZ E az r a) (s:bd aB E h w) (dX:∀ax w',E.le ax->bd aB ax ad w'->Q .normal a w')
 {listed:Array Bool} (cx:listed.size=ops.size) (dx:∀m,m<ops.size->(listed.getD m false=true↔(m≠i/\m≠j))) (fuel:Nat) (aA:2<=fuel):wpAnyIn (cd rd) 0 P .any ops Q fuel listed a w:=by
 have fo:i<ops.size:=(anx.1 cP).1;have IN:j<ops.size:=(anx.1 oV).1;have lq:∀{q:Oper} {H my:ah} {z:V},(cU P az ops q).run call r H=.val z my->∀t ∈ b2 ops q,Rel E (T.get .bad (aD t) r) (a.tmps.getD t undef):=
  fun he t aE=>k.af t (an9 (an0.1 (k9 he).2 t aE))
 cases fuel with
 | zero=>omega
 | succ fuel=>
   refine ⟨fun aK=>absurd (zs jh cx aK i fo) (fun h=>((dx i fo).1 h).1 rfl),fun m hm=>?_⟩;obtain ⟨m1,m2⟩:=xa cx hm;have iA:m=i\/m=j:=by
    rcases Nat.decEq m i with eC | he
    . rcases Nat.decEq m j with acY | e5
      . exact absurd ((dx m m1).2 ⟨eC,acY⟩) m2
      . exact .inr e5
    . exact .inl he
   rcases iA with rfl | rfl
   . refine q_ aM db eh cP he k.size (lq he) s fun ax x w' ag av aJ=>?_;rw [aZ];have gS:m<listed.size:=by rw [cx];exact fo
     refine Lc aM db eh jh oV nw ak (k.mono ag) aJ (fun aI b1 ct cy=>dX aI b1 (ag.trans ct) cy) (by simp [cx]) (fun z bJ=>?_) fuel (by omega);rw [gq gS,dx z bJ];constructor
     . rintro (rfl | h)
       . exact rq
       . exact h.2
     . intro h;by_cases BJ:z=m
       . exact .inl BJ
       . exact .inr ⟨BJ,h⟩
   . refine q_ aM db eh oV hQ k.size (lq hQ) s fun ax x w' ag av aJ=>?_;rw [nw];have gS:m<listed.size:=by rw [cx];exact IN
     refine Lc aM db eh jh cP aZ eW (k.mono ag) aJ (fun aI b1 ct cy=>dX aI b1 (ag.trans ct) cy) (by simp [cx]) (fun z bJ=>?_) fuel (by omega);rw [gq gS,dx z bJ];constructor
     . rintro (rfl | h)
       . exact fun e=>rq e.symm
       . exact h.1
     . intro h;by_cases BJ:z=m
       . exact .inl BJ
       . exact .inr ⟨h,BJ⟩
theorem Vl {rd:Option Nat} {id:Nat} {a:Act} {w:World} {Q:Exit->Act->World->Prop} (hm:P.follows .mixedOrders=true)
 (h:wpAnyIn (cd rd) 0 P .any ops Q ops.size (Array.replicate ops.size false) a {w with drawn:=w.drawn+1}):(Code.region id ops true).wpIn (cd rd) 0 P Q a w:=by
 refine wpIn_region_draw fun t=>?_;rw [hm];exact wpAnyIn_sound _ _ _ _ _ h
theorem Lh {r bH:bO}:∀{rs:List Nat},(∀t ∈ rs,T.get .bad (aD t) bH=T.get .bad (aD t) r)->dM bH rs=dM r rs
 | [],_=>rfl
 | t::c2,h=>by simp only [dM];rw [h t (by simp),Lh (rs:=c2) fun u hu=>h u (by simp [hu])]
theorem Z7 {all:Array Oper} {o:Oper} {call:eA} {r bH:bO} (h:∀t ∈ b2 all o,T.get .bad (aD t) bH=T.get .bad (aD t) r) (H:ah):(cU P az all o).run call bH H=(cU P az all o).run call r H:=by
 unfold cU;cases ao:(fO az o.dst&&js (b2 all o)) with
 | false=>rfl
 | true=>
   simp only [anC];cases an:o.guard with
   | none=>simp only [jW,Lh h]
   | some qD=>
     obtain ⟨j,want⟩:=qD;simp only;cases all[j]? with
     | none=>rfl
     | some g=>
       simp only;cases g.dst with
       | none=>rfl
       | some d=>
         simp only;cases (Nat.blt d az&&Nat.ble d top) with
         | false=>rfl
         | true=>simp only [anC,jW,Lh h]
theorem akN {rd:Option Nat} {aB:Fr} (aM:fa P) (db:hA P call) (eh:hI P call) (jh:∀i o,ops[i]? =some o->nG i o=true) {l i j:Nat} {b o p:Oper} (sz:ops[l]? =some b) (cP:ops[i]? =some o) (oV:ops[j]? =some p)
 (gS:l≠i) (QS:l≠j) (rq:i≠j) (aZ:o.dst=none) (nw:p.dst=none) {r bM:bO} {h J fD ad:ah} {z v c_ u e1:V}
 (aj:∀H,(cU P az ops b).run call r H=.val z H) (wy:bM=(gn b.dst).run r z) (yM:∀t ∈ b2 ops p,T.get .bad (aD t) bM=T.get .bad (aD t) r)
 (he:(cU P az ops o).run call bM h=.val v J) (ak:(cU P az ops p).run call bM J=.val u ad) (hQ:(cU P az ops p).run call bM h=.val e1 fD) (eW:(cU P az ops o).run call bM fD=.val c_ ad)
 {Q:Exit->Act->World->Prop} {E:Env} {a:Act} {w:World} (k:fZ E az r a) (s:bd aB E h w) (dX:∀ax bw w',E.le ax->fZ ax az bM bw->bd aB ax ad w'->Q .normal bw w')
 {listed:Array Bool} (cx:listed.size=ops.size) (A':q2 ops fun k=>listed.getD k false=true) (adD:∀c',(fp [] ops.toList)[i]? =some c'->gC c' l=true) (nu:∃c',(fp [] ops.toList)[i]? =some c')
 (dx:∀m,m<ops.size->(listed.getD m false=true↔(m≠l/\m≠i/\m≠j))) (fuel:Nat) (aA:3<=fuel):wpAnyIn (cd rd) 0 P .any ops Q fuel listed a w:=by
 have Ey:l<ops.size:=(anx.1 sz).1;have fo:i<ops.size:=(anx.1 cP).1;have IN:j<ops.size:=(anx.1 oV).1;have lq:∀{E:Env} {a:Act} {q:Oper} {R:bO} {H my:ah} {z:V},fZ E az R a->(cU P az ops q).run call R H=.val z my->∀t ∈ b2 ops q,Rel E (T.get .bad (aD t) R) (a.tmps.getD t undef):=
  fun k he t aE=>k.af t (an9 (an0.1 (k9 he).2 t aE))
 have SX:∀(L:Array Bool),(q2 ops fun k=>L.getD k false=true)->¬L.getD l false=true->i ∈ Region.ready .any ops L->False:=by
  intro L abM tT yC;rw [mem_ready] at yC;obtain ⟨_,cp,ij,v7⟩:=yC;rw [cP] at ij;cases ij;obtain ⟨c',nu⟩:=nu;have yk:q2 ops fun k=>L.getD k false=true\/k=i:=by
   intro k ok e ay bz he aj;rcases ay with ay | rfl
   . exact .inl (abM k ok e ay bz he aj)
   . rw [cP] at bz;cases bz;exact .inl (v7 e (ao6.1 he) (by rw [xW];exact aj))
  rcases Cb yk ops.toList [] (fun j=>by simp) (fun k m j ay=>by simp at ay) i c' l nu (adD c' nu) (.inr rfl) with h | h
  . exact tT h
  . exact gS h
 have aaa:∀m,m ∈ Region.ready .any ops listed->q2 ops fun k=>(listed.setIfInBounds m true).getD k false=true:=by
  intro m hm k ok e ay bz he aj;have n_:=hm;rw [mem_ready] at n_;obtain ⟨_,am1,Q4,v7⟩:=n_;have acU:m<listed.size:=by rw [cx];exact (anx.1 Q4).1
  rw [gq acU] at ay ⊢;rcases ay with rfl | ay
  . rw [Q4] at bz;cases bz;exact .inr (v7 e (ao6.1 he) (by rw [xW];exact aj))
  . exact .inr (A' k ok e ay bz he aj)
 cases fuel with
 | zero=>omega
 | succ fuel=>
   refine ⟨fun aK=>absurd (zs jh cx aK i fo) (fun h=>((dx i fo).1 h).2.1 rfl),fun m hm=>?_⟩;obtain ⟨m1,m2⟩:=xa cx hm;have iA:m=l\/m=j:=by
    rcases Nat.decEq m l with de | al
    . rcases Nat.decEq m j with kX | aN
      . rcases Nat.decEq m i with n3 | cj
        . exact absurd ((dx m m1).2 ⟨de,n3,kX⟩) m2
        . subst cj;exact (SX listed A' (fun h=>((dx l Ey).1 h).1 rfl) hm).elim
      . exact .inr aN
    . exact .inl al
   rcases iA with rfl | rfl
   . -- p first
     have mG:m<listed.size:=by rw [cx];exact Ey
     refine q_ aM db eh sz (aj h) k.size (lq k (aj h)) s fun ax x w' ag av aJ=>?_;have bX:fZ ax az bM (a.put b.dst x):=by rw [wy];exact (k.mono ag).put (k9 (aj h)).1 av
     refine akO aM db eh jh cP oV rq aZ nw he ak hQ eW bX aJ (fun aI b1 ct cy=>dX aI _ b1 (ag.trans ct) (bX.mono ct) cy) (by simp [cx]) (fun y bc=>?_) fuel (by omega);rw [gq mG,dx y bc];constructor
     . rintro (rfl | h)
       . exact ⟨gS,QS⟩
       . exact h.2
     . intro h;by_cases BH:y=m
       . exact .inl BH
       . exact .inr ⟨BH,h⟩
   . -- q first
     have mG:m<listed.size:=by rw [cx];exact IN
     have wm:(cU P az ops p).run call r h=.val e1 fD:=by rw [<-Z7 yM];exact hQ
     have abN:=aaa m hm;refine q_ aM db eh oV wm k.size (lq k wm) s fun ax x w' ag av aJ=>?_;rw [nw];have wC:(listed.setIfInBounds m true).size=ops.size:=by simp [cx]
     cases fuel with
     | zero=>omega
     | succ fuel=>
       refine ⟨fun aK=>absurd (zs jh wC aK i fo) (fun h=>?_),fun y bc=>?_⟩
       . rcases (gq mG).1 h with e | h
         . exact rq e
         . exact ((dx i fo).1 h).2.1 rfl
       obtain ⟨fc,fA⟩:=xa wC bc;have adI:y=l:=by
        rcases Nat.decEq y l with de | al
        . rcases Nat.decEq y i with n3 | cj
          . exfalso;refine fA ((gq mG).2 ?_);by_cases BH:y=m
            . exact .inl BH
            . exact .inr ((dx y fc).2 ⟨de,n3,BH⟩)
          . subst cj;refine (SX _ abN (fun h=>?_) bc).elim;rcases (gq mG).1 h with e | h
            . exact QS e
            . exact ((dx l Ey).1 h).1 rfl
        . exact al
       subst adI;have bu:=k.mono ag;refine q_ aM db eh sz (aj fD) bu.size (lq bu (aj fD)) aJ fun aI du b1 t1 t2 t3=>?_;have bX:fZ aI az bM (a.put b.dst du):=by rw [wy];exact (bu.mono t1).put (k9 (aj h)).1 t2
       have IZ:y < (listed.setIfInBounds m true).size:=by rw [wC];exact Ey
       refine Lc aM db eh jh cP aZ eW bX t3 (fun bL jt ct cy=>dX bL _ jt (ag.trans (t1.trans ct)) (bX.mono ct) cy) (by simp [cx]) (fun g an=>?_) fuel (by omega);rw [gq IZ,gq mG,dx g an];constructor
       . rintro (rfl | rfl | h)
         . exact gS
         . exact fun e=>rq e.symm
         . exact h.2.1
       . intro h;by_cases al:g=y
         . exact .inl al
         . by_cases aN:g=m
           . exact .inr (.inl aN)
           . exact .inr (.inr ⟨al,h,aN⟩)
theorem HI {rd:Option Nat} {aB:Fr} {E:Env} {h:ah} {w:World} {id:Nat} (dE:P.follows .mixedOrders=true) (aM:fa P) (db:hA P call) (eh:hI P call) {r:bO} {a:Act}
 {Q:Exit->Act->World->Prop} (k:fZ E az r a) (s:bd aB E h w) {es:List ft} {eJ:bO} {bp:ah} {order aF fb:List Nat} {N M:Nat} (C:Cert P az ops (fun _=>call) es r h eJ bp fb order aF N M false)
 (dX:N=ops.size->∀ax bw w',E.le ax->fZ ax az eJ bw->bd aB ax bp w'->Q .normal bw w')
 (hC:∀ax bw w' x v ab,E.le ax->N<ops.size->ops.size<=M->(∃i0 iG,ops[i0]? =some iG/\posOf aF i0=N/\(cU P az ops iG).run call eJ bp=.c1 v ab)->fZ ax az (pj r ops.toList) bw->Rel ax v x->bd aB ax ab w'->Q (.panic (qK x)) bw w')
 (eu:M<ops.size->∀(fuel:Nat) (listed:Array Bool) ax bw w',(List.range ops.size).countP (fun i=>!listed.getD i false)<=fuel->listed.size=ops.size->q2 ops (fun k=>listed.getD k false=true)->(∀k,k<ops.size->(listed.getD k false=true↔posOf aF k<N))->
   E.le ax->fZ ax az eJ bw->bd aB ax bp w'->wpAnyIn (cd rd) 0 P .any ops Q fuel listed bw w'):
 (Code.region id ops true).wpIn (cd rd) 0 P Q a w:=by
 have ec:∀k,¬(Array.replicate ops.size false).getD k false=true:=by
  intro k;rw [tI,Array.getElem?_replicate]
  split<;>simp
 have kT:Holds aB aB es bp aF (kM ops es bp aF (Array.replicate ops.size false) 0):=
  ⟨rfl,fun _ _=>rfl,fun k ay=>(by obtain ⟨_,_,_,_,a6⟩:=ay;omega),fun k bu ay=>(by obtain ⟨_,_,_,_,a6⟩:=ay;omega)⟩
 obtain ⟨h6,dn,g1,g2,g3,g4,g5,g6⟩:=C.advance N 0 (by omega) (fun k o _ _ _=>ec k) aB kT (E:=E) (w:={w with drawn:=w.drawn}) (by rw [C.a6];exact s.same rfl rfl rfl rfl);have mE:∀(ax:Env) (bw:Act),E.le ax->bw.defers=a.defers->∀(bH:bO),T.get .bad fw bH=T.get .bad fw r->lP ax (T.get .bad fw bH) bw.defers:=fun ax bw he aZ bH sH=>by rw [sH,aZ];exact k.defers.mono he
 have Es:T.get .bad fw eJ=T.get .bad fw r:=by have:=C.HJ N (anD _);have oW:es[N]? =none:=an3 (by rw [C.len];exact anD _);simpa [e8,oW] using this
 refine Vl dE (Pr aM (fun _=>db) (fun _=>eh) C (iJ:=E) (D:=a.defers)
  (fun aX ax bw w' ag av aJ bU=>dX aX ax bw w' ag ⟨av,mE ax bw ag aJ eJ Es⟩ bU)
  (fun ax bw w' x v ab ag av FF aJ bU cX ev hV=>hC ax bw w' x v ab ag av FF aJ ⟨bU,mE ax bw ag cX _ DZ⟩ ev hV)
  (fun g0 fuel listed ax bw w' g1 g2 g3 g4 ag av aJ bU=>eu g0 fuel listed ax bw w' g1 g2 g3 g4 ag ⟨av,mE ax bw ag aJ eJ Es⟩ bU) ops.size _ a _ ?_ ?_)
 . exact aol apv (by simp)
 . refine ⟨by simp,k.size,rfl,fun bu ay=>absurd ay (ec bu),fun bu o e ay=>absurd ay (ec bu),E,h6,dn,Env.le.refl E,g1,g3,fun bu o J ad=>⟨fun h=>absurd h (ec bu),fun h=>by have:=g4 bu o J ad (apj _);omega⟩,
    fun bu o _ _ h=>absurd h (ec bu),g5,?_,fun t aE=>.inr ⟨fun bu o ay=>absurd ay (ec bu),k.af t aE⟩⟩
   exact g6.same rfl rfl rfl rfl
theorem Tv {n:Nat} {order aF:List Nat} (ik:mT n order aF=true):order.length=n/\(∀k,k<n->posOf aF k<n/\order[posOf aF k]? =some k)/\∀p,p<n->∃i,i<n/\posOf aF i=p:=by
 unfold mT at ik;simp only [anu,an6] at ik;obtain ⟨ob,yF,Bs,Bt⟩:=ik;refine ⟨ob,fun k ay=>?_,fun p ak=>?_⟩
 . have an:aF[k]? =some (posOf aF k):=by
    unfold posOf;rw [anv (by omega)];rfl
   have:=uK Bs an;rw [an8] at this;exact ⟨by have:=(anU.1 this).1;omega,this⟩
 . have an:order[p]? =some (order[p]'(by omega)):=anv (by omega);have:=uK Bt an;rw [an8] at this;refine ⟨order[p]'(by omega),by have:=(anU.1 this).1;omega,?_⟩;unfold posOf;rw [this];rfl
theorem akL {order aF:List Nat} (aA:CN P ops order aF=true):3<=ops.size/\∀i o,ops[i]? =some o->∃c',(fp [] ops.toList)[i]? =some c'/\nG i o=true/\
 (posOf aF i<ops.size-3->∀k ok,ops[k]? =some ok->posOf aF k<ops.size-3->∃mk,(fp [] ops.toList)[k]? =some mk/\pL i c' (b2 ops o) o.dst k mk ok (Nat.blt (posOf aF k) (posOf aF i))=true/\(fy P o.op=true->eX P ok=true->posOf aF k<posOf aF i->gC c' k=true))/\
 (¬posOf aF i<ops.size-3->Gd P ops order aF (ops.size-3) i c' o=true):=by
 unfold CN at aA;simp only [anu,anS] at aA;refine ⟨aA.1,fun i o au=>?_⟩;obtain ⟨c',J,ad⟩:=qZ aA.2 i o (by simpa using au);simp only [an8,anu] at ad;refine ⟨c',J,ad.1,fun aH k ok ay qp=>?_,fun kx=>?_⟩
 . have aC:=ad.2;rw [show Nat.blt (posOf aF i) (ops.size-3)=true from by rw [aoa];exact aH] at aC;simp only [anC] at aC;obtain ⟨mk,bX,b_⟩:=qZ aC k ok (by simpa using ay);simp only [an8] at b_;rw [show Nat.blt (posOf aF k) (ops.size-3)=true from by rw [aoa];exact qp] at b_;simp only [anC,anu] at b_;refine ⟨mk,bX,b_.1,fun al aN aH=>?_⟩;have dY:=b_.2;rw [al,aN,aoC,show Nat.blt (posOf aF k) (posOf aF i)=true from by rw [aoa];exact aH] at dY;exact dY
 . have aC:=ad.2;rw [show Nat.blt (posOf aF i) (ops.size-3)=false from by rw [<-aof,aoa];exact kx] at aC;exact aC
theorem akM {order aF:List Nat} {N i c' p:Nat} {o FA:Oper} (ak:order[N]? =some p) (mJ:ops[p]? =some FA) (h:Gd P ops order aF N i c' o=true):
 (∀k,k<ops.size->posOf aF k<N->gC c' k=true)/\(posOf aF i=N->fy P o.op=false/\looks o.op=false)/\(posOf aF i≠N->∃x,tb o=some x)/\
 (posOf aF i=N+1->gC c' p=true)/\(posOf aF i=N+2->∀t ∈ b2 ops o,FA.dst≠some t):=by
 unfold Gd at h;rw [ak] at h;simp only [anu] at h;obtain ⟨⟨J,ad⟩,aC,bn⟩:=h;refine ⟨fun k ay IT=>?_,fun e=>?_,fun e=>?_,fun e=>?_,fun e t aE=>?_⟩
 . obtain ⟨mk,bX,b_⟩:=qZ J k ops[k] (by simp);simp only [an8] at b_;rw [show Nat.blt (posOf aF k) N=true from by rw [aoa];exact IT] at b_;exact b_
 . rw [h_,anL e] at ad;simpa using ad
 . rw [h_,anE e] at ad;exact Option.isSome_iff_exists.1 ad
 . rw [h_,anL e] at aC;exact aC
 . rw [h_,anL e,mJ] at bn;simp only at bn;intro aZ;rw [aZ] at bn;simp only [aoB] at bn;rw [show (b2 ops o).contains t=true from by simpa using aE] at bn;cases bn
theorem IB {es:List ft} {bp:ah} {N p:Nat} (ak:p<=N):cv (es.take N) (cv es bp N) p=cv es bp p:=by
 by_cases h:p<N
 . cases he:es[p]? with
   | some e=>simp [cv,h,he]
   | none=>
     have aX:es[N]? =none:=an3 (by have:=List.getElem?_eq_none_iff.1 he;omega);simp [cv,h,he,aX]
 . have:p=N:=by omega
   subst this;simp [cv,List.getElem?_take]
theorem T6 {es:List ft} {eJ:bO} {N p:Nat} (ak:p<=N):e8 (es.take N) (e8 es eJ N) p=e8 es eJ p:=by
 by_cases h:p<N
 . cases he:es[p]? with
   | some e=>simp [e8,h,he]
   | none=>
     have aX:es[N]? =none:=an3 (by have:=List.getElem?_eq_none_iff.1 he;omega);simp [e8,h,he,aX]
 . have:p=N:=by omega
   subst this;simp [e8,List.getElem?_take]
theorem Wv {order:List Nat} {es:List ft} {N i j:Nat} {o p:Oper} {e f:ft} {x y:Operand} (bF:Dt ops order es N=true) (au:order[N]? =some i) (bI:order[N+1]? =some j) (cP:ops[i]? =some o) (oV:ops[j]? =some p)
 (he:es[N]? =some e) (aA:es[N+1]? =some f) (ar:tb o=some x) (bc:tb p=some y) {b c:aU} {off mi:Nat} (aj:(bZ x).run (dM e.r (b2 ops o))=.ptr b off) (ao:(bZ y).run (dM f.r (b2 ops p))=.ptr c mi):b≠c:=by
 unfold Dt Lb at bF;simp only [au,bI,cP,oV,he,aA,ar,bc,aj,ao] at bF;intro h;subst h;rw [aU.AX] at bF;cases bF
theorem aac {rd:Option Nat} {aB:Fr} {E:Env} {h:ah} {w:World} {id:Nat} (dE:P.follows .mixedOrders=true) (aM:fa P) (db:hA P call) (eh:hI P call) {r:bO} {a:Act} {order aF:List Nat} (ik:mT ops.size order aF=true) (hZ:CN P ops order aF=true)
 {Q:Exit->Act->World->Prop} (ak:oJ aB E az (Q .normal) Q (HH ops order (gh P az ops (h2 ops order)) (sf P az ops (fp [] ops.toList) aF (iq P aF 0 ops.toList) 0 ops.toList) call r h)) (k:fZ E az r a) (s:bd aB E h w):(Code.region id ops true).wpIn (cd rd) 0 P Q a w:=by
 obtain ⟨ob,iV,mj⟩:=Tv ik;obtain ⟨ad,hZ⟩:=akL hZ;unfold HH at ak;cases c8:(gh P az ops (h2 ops order)).run call r h with
 | fail=>rw [c8] at ak;exact ak.elim
 | c1 _ _ _ _ _=>rw [c8] at ak;exact ak.elim
 | ok es eJ bp=>
   rw [c8] at ak;simp only at ak;obtain ⟨N,abV⟩:∃N,N=ops.size-3:=⟨_,rfl⟩;rw [<-abV] at ak hZ;cases aq:(Dt ops order es (N+1)&&(sf P az ops (fp [] ops.toList) aF (iq P aF 0 ops.toList) 0 ops.toList).run call (es.take N) (cv es bp N)) with
   | false=>rw [aq] at ak;exact ak.elim
   | true=>
     rw [aq] at ak;simp only [anC] at ak;simp only [anu] at aq;obtain ⟨Eo,A_⟩:=aq;obtain ⟨ag,av,aJ,bU⟩:=uV c8;have hlen:es.length=ops.size:=by rw [ag,qI,ob]
     have inj:∀i j,i<ops.size->j<ops.size->posOf aF i=posOf aF j->i=j:=by intro i j au bI he;have a:=(iV i au).2;have b:=(iV j bI).2;rw [he,b] at a;cases a;rfl
     obtain ⟨nA,tM,yl⟩:=mj N (by omega);obtain ⟨pz,yi,yj⟩:=mj (N+1) (by omega);obtain ⟨rI,vO,A8⟩:=mj (N+2) (by omega);have Bm:ops[nA]? =some ops[nA]:=anQ tM;have Eu:ops[pz]? =some ops[pz]:=anQ yi;have Ev:ops[rI]? =some ops[rI]:=anQ vO;have Ja:=(iV nA tM).2;have I':=(iV pz yi).2;have I_:=(iV rI vO).2;rw [yl] at Ja;rw [yj] at I';rw [A8] at I_;have yQ:∀i o,ops[i]? =some o->¬posOf aF i<N->∃c',(fp [] ops.toList)[i]? =some c'/\(∀k,k<ops.size->posOf aF k<N->gC c' k=true)/\(posOf aF i=N->fy P o.op=false/\looks o.op=false)/\(posOf aF i≠N->∃x,tb o=some x)/\
      (posOf aF i=N+1->gC c' nA=true)/\(posOf aF i=N+2->∀t ∈ b2 ops o,ops[nA].dst≠some t):=by
      intro i o au kx;obtain ⟨c',da,_,_,z4⟩:=hZ i o au;exact ⟨c',da,akM Ja Bm (z4 kx)⟩
     obtain ⟨amP,_,_,akJ,_⟩:=yQ nA _ Bm (by omega);obtain ⟨ahs,QW,_,_,akH,aa,_⟩:=yQ pz _ Eu (by omega);obtain ⟨amO,amv,_,_,akI,_,KO⟩:=yQ rI _ Ev (by omega);obtain ⟨Py,ahl⟩:=akJ yl;obtain ⟨anl,Js⟩:=akH (by omega);obtain ⟨anm,Jt⟩:=akI (by omega);have aa:=aa yj;have KO:=KO A8;obtain ⟨HK,gH,jK,B0⟩:=bU _ _ (oy Ja Bm);obtain ⟨vD,bP,a2,a3⟩:=bU _ _ (oy I' Eu);obtain ⟨Px,b9,cA,kO⟩:=bU _ _ (oy I_ Ev);obtain ⟨anc,anp,ah',O',amc⟩:=La Js;obtain ⟨ane,anq,amX,O_,amd⟩:=La Jt;have ec:es[N+2+1]? =none:=an3 (by omega);have acL:cv es bp (N+2+1)=bp:=by simp [cv,ec]
     have ajM:e8 es eJ (N+2+1)=eJ:=by simp [e8,ec]
     have abU:cv es bp N=HK.h:=by simp [cv,gH]
     have ajj:e8 es eJ N=HK.r:=by simp [e8,gH]
     have abS:cv es bp (N+1)=vD.h:=by simp [cv,bP]
     have ajh:e8 es eJ (N+1)=vD.r:=by simp [e8,bP]
     have abT:cv es bp (N+1+1)=Px.h:=by simp [cv,b9]
     have aji:e8 es eJ (N+1+1)=Px.r:=by simp [e8,b9]
     rw [ajh] at B0;rw [abS] at jK;rw [O',aji] at a3;rw [O_,ajM] at kO;simp only [gn] at a3 kO;rw [abT] at a2;rw [acL] at cA;obtain ⟨abR,Ii⟩:=vB Py jK;have Ii:=Ii ahl;obtain ⟨Mq,amY,aek,aiQ,Ur,ald⟩:=Po Js a2;obtain ⟨Hj,amZ,RP,aiR,aj8,ale⟩:=Po Jt cA;have eC:Mq≠Hj:=Wv Eo I' I_ Eu Ev bP b9 Js Jt aiQ aiR;have Ih:=ale vD.h (by rw [Ur,ah.fh,anE eC]);have A7:=ald (vD.h.set Hj RP) (by rw [ah.fh,anE (fun e=>eC e.symm)]);have ab_:(vD.h.set Hj RP).set Mq aek=bp:=by rw [ah.set_comm _ (fun e=>eC e.symm),<-Ur,<-aj8]
     rw [ab_] at A7;rw [a3] at Ih cA;have sJ:eJ=vD.r:=kO.trans a3;have acV:∀m,m<ops.size->(posOf aF m<N↔(m≠nA/\m≠pz/\m≠rI)):=by
      intro m hm;have amB:=(iV m hm).1;constructor
      . intro h;exact ⟨fun e=>by subst e;omega,fun e=>by subst e;omega,fun e=>by subst e;omega⟩
      . rintro ⟨cR,de,kX⟩;have tB:posOf aF m≠N:=fun e=>cR (inj m nA hm tM (by rw [e,yl]));have bW:posOf aF m≠N+1:=fun e=>de (inj m pz hm yi (by rw [e,yj]));have cu:posOf aF m≠N+2:=fun e=>kX (inj m rI hm vO (by rw [e,A8]));omega
     have ab':eX P ops[pz]=true:=by unfold eX hq;rw [ah'];rfl
     have yM:∀t ∈ b2 ops ops[rI],T.get .bad (aD t) vD.r=T.get .bad (aD t) HK.r:=by intro t aE;have rE:t<=top:=an9 (an0.1 (k9 cA).2 t aE);rw [B0,Qd (k9 jK).1 rE,anE (KO t aE)]
     have iC:∀i o,ops[i]? =some o->posOf aF i<N->∃e,(es.take N)[posOf aF i]? =some e/\(cU P az ops o).run call e.r e.h=.val e.v (cv (es.take N) (cv es bp N) (posOf aF i+1))/\e8 (es.take N) (e8 es eJ N) (posOf aF i+1)=(gn o.dst).run e.r e.v:=by
      intro i o a1 au;obtain ⟨e,da,z2,z3⟩:=bU _ o (oy (iV i (anx.1 a1).1).2 a1);refine ⟨e,by simp [au,da],?_,?_⟩
      . rw [IB (by omega)];exact z2
      . rw [T6 (by omega)];exact z3
     have C:Cert P az ops (fun _=>call) (es.take N) r h (e8 es eJ N) (cv es bp N) (N::iq P aF 0 ops.toList) order aF N N false:=
      ⟨by simp [hlen];omega,by omega,anD _,iV,mj,by rw [IB (apj _)];exact av,by rw [T6 (apj _)];exact aJ,iC,
        fun i o a1=>by
         obtain ⟨c',da,z2,z3,_⟩:=hZ i o a1
         exact ⟨c',da,z2,fun au k ok ay IS=>by
          obtain ⟨mk,fc,fA,y3⟩:=z3 au k ok ay IS
          exact ⟨mk,fc,fA,fun a b c=>.inl (y3 a b c)⟩⟩,
        by simp,
        fun j o J ad=>aoh _ (by simpa using za (aF:=aF) (i:=0) (j:=j) (l:=ops.toList) (by simpa using J) ad),
        fun s aL=>by
         rcases an2.1 aL with rfl | aL
         . exact .inl (.inr ⟨rfl,rfl⟩)
         . rcases uu aL with h | ⟨j,o,J,ad,aC⟩
           . exact .inl (.inl (by simpa using h))
           . exact .inr ⟨j,o,by simpa using J,ad,by simpa using aC⟩,
        fun j o J ad aC bn=>by
         obtain ⟨e,g1,_⟩:=iC j o J bn;have Rj:=Ha A_ j o (by simpa using J) ad aC e (by simpa using g1);refine ⟨e,g1,fun s aL hm=>?_⟩;rcases an2.1 aL with rfl | aL
         . have n':sX P (fp [] ops.toList) ops.toList aF j (((fp [] ops.toList)[j]?).getD 0) (s+1)=true:=by
            unfold sX at hm ⊢;refine Lx (by rw [J'];simp) fun dB mk ok fc fA=>?_;obtain ⟨mk',bf,du⟩:=qZ hm dB ok fA;rw [fc] at bf;cases bf;simp only [an8] at du ⊢;have bz:ops[dB]? =some ok:=by simpa using fA
            have qp:=(anx.1 bz).1;by_cases yz:posOf aF dB=s
            . have:dB=nA:=inj dB nA qp tM (by rw [yz,yl]);subst this;rw [Bm] at bz;cases bz;have acX:eX P ops[dB]=false:=by unfold eX;rw [Py];rfl
              rw [acX];rfl
            . have:Nat.blt (posOf aF dB) (s+1)=Nat.blt (posOf aF dB) s:=by
               rw [aon,aoa,aoa];omega
              rw [this];exact du
           have yC:s+1 ∈ iq P aF 0 ops.toList:=by rw [<-yj];simpa using za (P:=P) (aF:=aF) (i:=0) (j:=pz) (l:=ops.toList) (by simp) ab'
           obtain ⟨ab,g3⟩:=Rj (s+1) yC (by simpa using n');refine ⟨call,ab,⟨db,eh⟩,?_⟩;have al:cv (es.take s) (cv es bp s) (s+1)=cv es bp s:=by have:(es.take s)[s+1]? =none:=an3 (by simp;omega);simp only [cv,this]
           have aN:cv (es.take s) (cv es bp s) s=cv es bp s:=IB (anD _);rw [al] at g3;rw [aN];exact g3
         . obtain ⟨ab,g3⟩:=Rj s aL (by simpa using hm);exact ⟨call,ab,⟨db,eh⟩,g3⟩,
        fun _=>⟨rfl,fun dB ok mk ay kx I1 j bI Bn=>by obtain ⟨c',da,z2,_⟩:=yQ dB ok ay (by omega);rw [I1] at da;cases da;exact z2 j bI Bn⟩,
        fun J ad=>by omega⟩
     refine HI dE aM db eh k s C (fun h=>by omega) (fun _ _ _ _ _ _ _ _ h=>by omega) (fun _ fuel listed ax bw w' g1 g2 g3 g4 g5 g6 g7=>?_);rw [ajj] at g6;rw [abU] at g7;rw [abR] at a2 Ih A7;refine akN aM db eh (fun i o a1=>by obtain ⟨c',_,z2,_⟩:=hZ i o a1;exact z2) Bm Eu Ev (fun e=>by rw [e] at yl;omega) (fun e=>by rw [e] at yl;omega) (fun e=>by rw [e] at yj;omega) O' O_
      Ii B0 yM a2 cA Ih A7 g6 g7 (fun aI a2 b1 ct cy fj=>ak aI a2 b1 (g5.trans ct) (by rw [sJ];exact cy) fj) g2 g3 (fun c' nu=>by rw [QW] at nu;cases nu;exact aa) ⟨ahs,QW⟩ (fun m hm=>(g4 m hm).trans (acV m hm)) fuel ?_
     have HC:∀(L:Array Bool) (x:Nat),L.size=ops.size->x<ops.size->¬L.getD x false=true->(List.range ops.size).countP (fun k=>!(L.setIfInBounds x true).getD k false) < (List.range ops.size).countP (fun k=>!L.getD k false):=by
      intro L x cB ar aX;have yV:x<L.size:=by rw [cB];exact ar
      refine DP (fun k=>!L.getD k false) (fun k=>!(L.setIfInBounds x true).getD k false) (List.range ops.size) (fun k _ ay=>?_) ⟨x,ao9.2 ar,?_,?_⟩
      . simp only [aoB] at ay ⊢;cases aq:L.getD k false with
        | false=>rfl
        | true=>
          have:=(gq (k:=k) yV).2 (.inr aq);rw [ay] at this;cases this
      . cases aq:L.getD x false with
        | false=>rfl
        | true=>exact absurd aq aX
      . have:=(gq (k:=x) yV).2 (.inl rfl);simp [this]
     have ahM:¬listed.getD nA false=true:=fun h=>by have:=(g4 nA tM).1 h;omega
     have ahK:¬listed.getD pz false=true:=fun h=>by have:=(g4 pz yi).1 h;omega
     have ahL:¬listed.getD rI false=true:=fun h=>by have:=(g4 rI vO).1 h;omega
     have bW:=HC listed nA g2 tM ahM
     have cu:=HC (listed.setIfInBounds nA true) pz (by simp [g2]) yi (fun h=>by
      rcases (gq (by rw [g2];exact tM)).1 h with e | h
      . rw [e] at yj;omega
      . exact ahK h)
     have c3:=HC ((listed.setIfInBounds nA true).setIfInBounds pz true) rI (by simp [g2]) vO (fun h=>by
      rcases (gq (by simp [g2];exact yi)).1 h with e | h
      . rw [e] at A8;omega
      . rcases (gq (by rw [g2];exact tM)).1 h with e | h
        . rw [e] at A8;omega
        . exact ahL h)
     omega
end
section
variable {P:Program} {az:Nat} {ops:Array Oper} {call:eA}
inductive p1 {α β:Type} (R:α->β->Prop):List α->List β->Prop
 | nil:p1 R [] []
 | cons {a:α} {b:β} {J3:List α} {J4:List β} (h:R a b) (t:p1 R J3 J4):p1 R (a::J3) (b::J4)
def w_ (ops:Array Oper) (t:Nat) (listed:Array Bool):Option Nat:=(Region.ready .any ops listed)[t % (Region.ready .any ops listed).length]?
theorem go_succ (fuel t:Nat) (listed:Array Bool):Region.linearise.go .any ops (fuel+1) t listed []=match w_ ops t listed with
 | some i=>i::Region.linearise.go .any ops fuel (t / (Region.ready .any ops listed).length) (listed.setIfInBounds i true) []
 | none=>[]:=by
 simp only [Region.linearise.go]
 change (match (Region.ready .any ops listed)[t % (Region.ready .any ops listed).length]? with
  | some i=>Region.linearise.go .any ops fuel (t / (Region.ready .any ops listed).length) (listed.setIfInBounds i true) [i]
  | none=>[].reverse)=_
 unfold w_;cases (Region.ready .any ops listed)[t % (Region.ready .any ops listed).length]? with
 | none=>rfl
 | some i=>
   simp only;rw [linearise_go_acc,List.reverse_singleton,List.singleton_append]
theorem T2 {t:Nat} {listed:Array Bool} (h:w_ ops t listed=none):Region.ready .any ops listed=[]:=by
 unfold w_ at h;cases aK:Region.ready .any ops listed with
 | nil=>rfl
 | cons x xs=>
   rw [aK] at h;have aH:t % (x::xs).length < (x::xs).length:=Nat.mod_lt _ (by simp);rw [anv aH] at h;cases h
theorem KR {t i:Nat} {listed:Array Bool} (h:w_ ops t listed=some i):i ∈ Region.ready .any ops listed:=aob h
theorem count_set {listed:Array Bool} {i:Nat} (cx:listed.size=ops.size) (au:i<ops.size) (aX:¬listed.getD i false=true):
 (List.range ops.size).countP (fun k=>!(listed.setIfInBounds i true).getD k false) < (List.range ops.size).countP (fun k=>!listed.getD k false):=by
 have aw:i<listed.size:=by rw [cx];exact au
 refine DP (fun k=>!listed.getD k false) (fun k=>!(listed.setIfInBounds i true).getD k false) (List.range ops.size) (fun k _ ay=>?_) ⟨i,ao9.2 au,?_,?_⟩
 . simp only [aoB] at ay ⊢;cases aq:listed.getD k false with
   | false=>rfl
   | true=>
     have:=(gq (k:=k) aw).2 (.inr aq);rw [ay] at this;cases this
 . cases aq:listed.getD i false with
   | false=>rfl
   | true=>exact absurd aq aX
 . have:=(gq (k:=i) aw).2 (.inl rfl);simp [this]
theorem Qe (jh:∀i o,ops[i]? =some o->nG i o=true):∀(fuel t:Nat) (listed:Array Bool),listed.size=ops.size->(List.range ops.size).countP (fun i=>!listed.getD i false)<=fuel->
 (Region.linearise.go .any ops fuel t listed []).Nodup/\(∀k ∈ Region.linearise.go .any ops fuel t listed [],k<ops.size/\¬listed.getD k false=true)/\
  ∀k,k<ops.size->listed.getD k false=true\/k ∈ Region.linearise.go .any ops fuel t listed []
 | 0,t,listed,cx,ao=>by
   have e:Region.linearise.go .any ops 0 t listed []=[]:=rfl;rw [e];refine ⟨List.nodup_nil,fun k ay=>by simp at ay,fun k ay=>.inl ?_⟩;have a6:(List.range ops.size).countP (fun i=>!listed.getD i false)=0:=by omega
   rw [List.countP_eq_zero] at a6;simpa using a6 k (ao9.2 ay)
 | fuel+1,t,listed,cx,ao=>by
   rw [go_succ];cases aK:w_ ops t listed with
   | none=>
     simp only;exact ⟨List.nodup_nil,fun k ay=>by simp at ay,fun k ay=>.inl (zs jh cx (T2 aK) k ay)⟩
   | some i=>
     simp only;obtain ⟨i1,i2⟩:=xa cx (KR aK);have aw:i<listed.size:=by rw [cx];exact i1
     have:=count_set cx i1 i2;obtain ⟨g1,g2,g3⟩:=Qe jh fuel (t / (Region.ready .any ops listed).length) (listed.setIfInBounds i true) (by simp [cx]) (by omega);refine ⟨apJ.2 ⟨fun hm=>(g2 i hm).2 ((gq aw).2 (.inl rfl)),g1⟩,fun k ay=>?_,fun k ay=>?_⟩
     . rcases an2.1 ay with rfl | ay
       . exact ⟨i1,i2⟩
       . exact ⟨(g2 k ay).1,fun h=>(g2 k ay).2 ((gq aw).2 (.inr h))⟩
     . rcases g3 k ay with h | h
       . rcases (gq aw).1 h with rfl | h
         . exact .inr (by simp)
         . exact .inl h
       . exact .inr (by simp [h])
theorem F_ {o:Oper} {os:List Oper} {r:bO} {h:ah} {es:List ft} {dr:bO} {aA:ah} (he:(gh P az ops (o::os)).run call r h=.ok es dr aA):
 ∃v J ic,(cU P az ops o).run call r h=.val v J/\(gh P az ops os).run call ((gn o.dst).run r v) J=.ok ic dr aA/\es=⟨r,h,v⟩::ic:=by
 simp only [gh,CM] at he;cases J:(cU P az ops o).run call r h with
 | fail=>rw [J] at he;cases he
 | c1 _ _=>rw [J] at he;simp only at he;cases hm:mR o.op<;>rw [hm] at he<;>cases he
 | val v bp=>
   rw [J] at he;simp only at he;cases ad:(gh P az ops os).run call ((gn o.dst).run r v) bp with
   | fail=>rw [ad] at he;cases he
   | c1 _ _ _ _ _=>rw [ad] at he;cases he
   | ok ic bM aC=>
     rw [ad] at he;simp only [q1.ok.injEq] at he;obtain ⟨rfl,rfl,rfl⟩:=he;exact ⟨v,bp,ic,rfl,ad,rfl⟩
theorem Ga {o:Oper} {os:List Oper} {r:bO} {h J:ah} {v:V} {ic:List ft} {dr:bO} {aA:ah} (a6:(cU P az ops o).run call r h=.val v J) (ad:(gh P az ops os).run call ((gn o.dst).run r v) J=.ok ic dr aA):
 (gh P az ops (o::os)).run call r h=.ok (⟨r,h,v⟩::ic) dr aA:=by
 simp only [gh,CM,a6,ad]
theorem K':∀(gH jK:List Oper) {r:bO} {h:ah} {es:List ft} {dr:bO} {aA:ah},(gh P az ops (gH++jK)).run call r h=.ok es dr aA->
 ∃ic bM J re,(gh P az ops gH).run call r h=.ok ic bM J/\(gh P az ops jK).run call bM J=.ok re dr aA/\es=ic++re
 | [],jK,r,h,es,dr,aA,he=>⟨[],r,h,es,rfl,he,rfl⟩
 | o::os,jK,r,h,es,dr,aA,he=>by obtain ⟨v,J,ic,ag,av,rfl⟩:=F_ he;obtain ⟨HS,bM,aC,re,g1,g2,rfl⟩:=K' os jK av;exact ⟨⟨r,h,v⟩::HS,bM,aC,re,Ga ag g1,g2,rfl⟩
theorem K_:∀(gH jK:List Oper) {r bM dr:bO} {h J aA:ah} {ic re:List ft},(gh P az ops gH).run call r h=.ok ic bM J->(gh P az ops jK).run call bM J=.ok re dr aA->
 (gh P az ops (gH++jK)).run call r h=.ok (ic++re) dr aA
 | [],jK,r,bM,dr,h,J,aA,ic,re,he,ad=>by simp only [gh,q1.ok.injEq] at he;obtain ⟨rfl,rfl,rfl⟩:=he;exact ad
 | o::os,jK,r,bM,dr,h,J,aA,ic,re,he,ad=>by obtain ⟨v,aC,HS,ag,av,rfl⟩:=F_ he;exact Ga ag (K_ os jK av ad)
theorem Cr:∀(a b:List Nat),h2 ops (a++b)=h2 ops a++h2 ops b
 | [],b=>rfl
 | x::xs,b=>by simp [h2,Cr xs b]
theorem TT:∀(l:List Oper),(∀o ∈ l,fy P o.op=false/\looks o.op=false)->∀{r dr:bO} {h aA:ah} {es:List ft},(gh P az ops l).run call r h=.ok es dr aA->
 aA=h/\∀H:ah,∃rb,(gh P az ops l).run call r H=.ok rb dr H
 | [],_,r,dr,h,aA,es,he=>by simp only [gh,q1.ok.injEq] at he;obtain ⟨rfl,rfl,rfl⟩:=he;exact ⟨rfl,fun H=>⟨[],rfl⟩⟩
 | o::os,aq,r,dr,h,aA,es,he=>by obtain ⟨v,J,ic,ag,av,rfl⟩:=F_ he;obtain ⟨al,aN⟩:=aq o (by simp);obtain ⟨d1,d2⟩:=vB al ag;subst d1;obtain ⟨g1,g2⟩:=TT os (fun cp ij=>aq cp (by simp [ij])) av;refine ⟨g1,fun H=>?_⟩;obtain ⟨rb,g3⟩:=g2 H;exact ⟨_,Ga (d2 aN H) g3⟩
theorem BL {o:Oper} {A:xu} (h:mN o=some A):o.op=.insert A.t A.m A.k A.x/\o.dst=none/\o.guard=none:=by
 unfold mN at h
 split at h
 case h_2=>cases h
 rename_i t m k x a1
 split at h
 case h_2=>cases h
 rename_i aZ
 split at h
 case h_2=>cases h
 rename_i an;cases h;exact ⟨a1,aZ,an⟩
theorem TO {e:ef} {k v:V} {c:Nat}:∀{es:List cM},(∀m ∈ es,e.run k m.k=some false)->oB e k v c es=some (es++[⟨k,v,c⟩],true)
 | [],_=>rfl
 | m::ms,h=>by simp only [oB,h m (by simp),anN,TO (es:=ms) fun dD n'=>h dD (by simp [n']),anO]
theorem Z8 {o:Oper} {A:xu} (yy:BW P A.t=true) (dJ:mN o=some A) {r:bO} {H1 cN:ah} {v:V} (he:(cU P az ops o).run call r H1=.val v cN) {b:aU} (aj:(bZ A.m).run (dM r (b2 ops o))=.map b):
 ∀(H:ah) es c,H.get b=.mp es c->(∀m ∈ es,(uj P A.t).run ((bZ A.k).run (dM r (b2 ops o))) m.k=some false)->
  (cU P az ops o).run call r H=.val .bad (H.set b (.mp (es++[⟨(bZ A.k).run (dM r (b2 ops o)),(bZ A.x).run (dM r (b2 ops o)),c⟩]) (c+1))):=by
 obtain ⟨a1,aZ,an⟩:=BL dJ;obtain ⟨J,ad⟩:=k9 he;have key:cU P az ops o=⟨jW none (fW P o) (b2 ops o)⟩:=by unfold cU;rw [show (fO az o.dst&&js (b2 ops o))=true from by rw [J,ad];rfl,an];rfl
 rw [key] at he ⊢;simp only [jW] at he ⊢;have vV:∀H,(fW P o).run call (dM r (b2 ops o)) H=hF .bad ((pX P A.t).run H (.map b) ((bZ A.k).run (dM r (b2 ops o))) ((bZ A.x).run (dM r (b2 ops o)))):=by intro H;unfold fW;rw [a1];simp only [aj]
 rw [vV] at he;have adA:pX P A.t=⟨pY (uj P A.t)⟩:=by
  cases aL:(pX P A.t).run H1 (.map b) ((bZ A.k).run (dM r (b2 ops o))) ((bZ A.x).run (dM r (b2 ops o))) with
  | none=>rw [aL] at he;cases he
  | some aC=>
    unfold pX at aL ⊢;unfold uj;cases aE:bg P A.t with
    | none=>rw [aE] at aL;cases aL
    | some aO=>
      rw [aE] at aL;simp only at aL ⊢;cases b3:aO.bl<;>rw [b3] at aL<;>simp only at aL ⊢<;>try (cases aL;done)
      rename_i dC k';cases qq:bg P dC with
      | none=>rw [qq] at aL;cases aL
      | some hf=>
        rw [qq] at aL;simp only at aL ⊢;cases aA:lu hf.bl with
        | false=>
          unfold BW at yy;rw [aE] at yy;simp only [b3,qq,aA] at yy;cases yy
        | true=>rfl
 intro H es c np ay;rw [vV,adA];simp only [pY,np,cn.lD,TO ay,hF,anC]
theorem ad2 {o:Oper} {r:bO} {b:aU} {m:cM} (h:ue ops r b o=some m):∃A,mN o=some A/\(bZ A.m).run (dM r (b2 ops o))=.map b/\m.k=(bZ A.k).run (dM r (b2 ops o))/\m.v=(bZ A.x).run (dM r (b2 ops o)):=by
 unfold ue at h;cases bF:mN o with
 | none=>rw [bF] at h;cases h
 | some A=>
   rw [bF] at h;simp only at h;cases hm:(bZ A.m).run (dM r (b2 ops o))<;>rw [hm] at h<;>simp only at h<;>try (cases h;done)
   obtain ⟨ao,J⟩:=fg h;have:=aU.nk ao;subst this;cases J;exact ⟨A,rfl,hm,rfl,rfl⟩
def lQ (ops:Array Oper) (r:bO) (b:aU) (i:Nat) (m:cM):Prop:=∃o,ops[i]? =some o/\ue ops r b o=some m
theorem lQ.HE {r:bO} {b:aU} {i:Nat} {m dD:cM} (h:lQ ops r b i m) (ab:lQ ops r b i dD):m=dD:=by obtain ⟨o,J,ad⟩:=h;obtain ⟨cp,aC,bn⟩:=ab;rw [J] at aC;cases aC;rw [ad] at bn;cases bn;rfl
theorem EK {r:bO} {b:aU}:∀{is:List Nat} {ms:List cM},wJ ops r b is=some ms->p1 (lQ ops r b) is ms
 | [],ms,h=>by simp only [wJ,ant] at h;subst h;exact .nil
 | i::is,ms,h=>by
   simp only [wJ] at h;cases a1:ops[i]? with
   | none=>rw [a1] at h;cases h
   | some o=>
     rw [a1] at h;simp only at h;cases hm:ue ops r b o with
     | none=>rw [hm] at h;cases h
     | some m=>
       rw [hm] at h;simp only at h;cases aL:wJ ops r b is with
       | none=>rw [aL] at h;cases h
       | some amS=>
         rw [aL] at h;simp only [ant] at h;subst h;exact .cons ⟨o,a1,hm⟩ (EK aL)
theorem RJ {x:Option Bool} (h:isFalse x=true):x=some false:=by
 cases x with
 | none=>cases h
 | some b=>cases b<;>simp_all [isFalse]
theorem G3 {e:ef} {m:cM}:∀{ms:List cM},Du e m ms=true->∀dD ∈ ms,e.run m.k dD.k=some false/\e.run dD.k m.k=some false
 | [],_,dD,h=>by simp at h
 | x::xs,h,dD,hm=>by
   simp only [Du,anu] at h;rcases an2.1 hm with rfl | hm
   . exact ⟨RJ h.1,RJ h.2.1⟩
   . exact G3 h.2.2 dD hm
theorem L9 {r:bO} {b:aU} {e:ef}:∀{is:List Nat} {ms:List cM},p1 (lQ ops r b) is ms->is.Nodup->As e ms=true->∀i j m dD,i ∈ is->j ∈ is->i≠j->lQ ops r b i m->lQ ops r b j dD->e.run m.k dD.k=some false
 | _,_,.nil,_,_,i,_,_,_,au,_,_,_,_=>by simp at au
 | _,_,.cons (a:=x) (b:=eZ) (J3:=xs) (J4:=ahJ) a6 aE,aX,bF,i,j,m,dD,au,bI,rq,hm,n'=>by
   simp only [As,anu] at bF;rw [apJ] at aX;have Rz:∀k n,k ∈ xs->lQ ops r b k n->n ∈ ahJ:=by
    intro k n ay acH;have gen:∀{is:List Nat} {ms:List cM},p1 (lQ ops r b) is ms->k ∈ is->n ∈ ms:=by
     intro is ms aA
     induction aA with
     | nil=>intro ay;simp at ay
     | cons J _ bC=>
       intro ay;rcases an2.1 ay with rfl | ay
       . rw [acH.HE J];simp
       . exact aoh _ (bC ay)
    exact gen aE ay
   rcases an2.1 au with QJ | au
   . rcases an2.1 bI with IP | bI
     . exact absurd (QJ.trans IP.symm) rq
     . rw [QJ] at hm;rw [hm.HE a6];exact (G3 bF.1 dD (Rz j dD bI n')).1
   . rcases an2.1 bI with IP | bI
     . rw [IP] at n';rw [n'.HE a6];exact (G3 bF.1 m (Rz i m au hm)).2
     . exact L9 aE aX.2 bF.2 i j m dD au bI rq hm n'
theorem JD {j4:bO} {b:aU} {e:ef} {I:List Nat} (qj:∀i ∈ I,∃o A m,ops[i]? =some o/\mN o=some A/\(BW P A.t=true/\uj P A.t=e)/\ue ops j4 b o=some m/\∃v H1 cN,(cU P az ops o).run call j4 H1=.val v cN)
 (En:∀i j m dD,i ∈ I->j ∈ I->i≠j->lQ ops j4 b i m->lQ ops j4 b j dD->e.run m.k dD.k=some false):
 ∀(τ:List Nat) (done:List Nat) (ds:List cM) (c:Nat) (H:ah),(∀i ∈ τ,i ∈ I)->(∀i ∈ done,i ∈ I)->(done++τ).Nodup->(∀m ∈ ds,∃i ∈ done,∃dD,lQ ops j4 b i dD/\m.k=dD.k)->H.get b=.mp ds c->
  ∃es ms hY my,(gh P az ops (h2 ops τ)).run call j4 H=.ok es j4 my/\my.get b=.mp (ds++ms) hY/\(∀k,b≠k->my.get k=H.get k)/\(∀k,my.set b k=H.set b k)/\(∀e ∈ es,∀k,b≠k->e.h.get k=H.get k)/\
   p1 (fun i (m:cM)=>∃dD,lQ ops j4 b i dD/\m.k=dD.k/\m.v=dD.v) τ ms
 | [],done,ds,c,H,_,_,_,_,np=>⟨[],[],c,H,rfl,by rw [an_];exact np,fun _ _=>rfl,fun _=>rfl,fun e he=>by simp at he,.nil⟩
 | i::τ,done,ds,c,H,EF,Qy,pt,qm,np=>by
   obtain ⟨o,A,m,a1,dJ,⟨yy,we⟩,hm,v,H1,cN,dh⟩:=qj i (EF i (by simp));obtain ⟨kJ,Qn,aj,ay,ar⟩:=ad2 hm;rw [dJ] at Qn;cases Qn;have rz:i ∉ done:=fun h=>by rw [List.nodup_append] at pt;exact pt.2.2 i h i (by simp) rfl
   have iC:=Z8 yy dJ dh aj H ds c np (fun dD n'=>by
    obtain ⟨j,bI,ahE,acn,acG⟩:=qm dD n';rw [acG,we,<-ay]
    exact En i j m ahE (EF i (by simp)) (Qy j bI) (fun e=>rz (e ▸ bI)) ⟨o,a1,hm⟩ acn)
   obtain ⟨_,aZ,_⟩:=BL dJ;obtain ⟨es,ms,hY,my,g1,g2,g3,g4,g6,g5⟩:=JD qj En τ (done++[i]) (ds++[⟨(bZ A.k).run (dM j4 (b2 ops o)),(bZ A.x).run (dM j4 (b2 ops o)),c⟩]) (c+1)
    (H.set b (.mp (ds++[⟨(bZ A.k).run (dM j4 (b2 ops o)),(bZ A.x).run (dM j4 (b2 ops o)),c⟩]) (c+1))) (fun j bI=>EF j (by simp [bI]))
    (fun j bI=>by
      rcases apw.1 bI with h | h
      . exact Qy j h
      . simp only [apc] at h;subst h;exact EF j (by simp)) (by simpa using pt)
    (fun dD n'=>by
      rcases apw.1 n' with h | h
      . obtain ⟨j,bI,r⟩:=qm dD h;exact ⟨j,by simp [bI],r⟩
      . simp only [apc] at h;subst h
        exact ⟨i,by simp,m,⟨o,a1,hm⟩,ay.symm⟩) (by rw [ah.fh,anL rfl])
   have Rf:=Ga (os:=h2 ops τ) iC (by rw [aZ];exact g1);rw [show o::h2 ops τ=h2 ops (i::τ) from by simp [h2,a1]] at Rf;refine ⟨_,⟨(bZ A.k).run (dM j4 (b2 ops o)),(bZ A.x).run (dM j4 (b2 ops o)),c⟩::ms,hY,my,Rf,by rw [g2,anG];rfl,fun k ay=>?_,fun k=>?_,fun dL eW k ay=>?_,.cons ⟨m,⟨o,a1,hm⟩,ay.symm,ar.symm⟩ g5⟩
   . rw [g3 k ay,ah.fh,anE ay]
   . rw [g4];unfold ah.set;simp only [T.TQ]
   . rcases an2.1 eW with rfl | eW
     . rfl
     . rw [g6 dL eW k ay,ah.fh,anE ay]
def q5 (E:Env):List (V × V)->List MapEntry->Prop
 | [],l=>l=[]
 | p::bE,l=>∃e es,l=e::es/\Rel E p.1 e.key/\Rel E p.2 e.val/\q5 E bE es
theorem q5.perm {E:Env} {bE kG:List (V × V)} (h:bE.Perm kG):∀{l:List MapEntry},q5 E kG l->∃gm,q5 E bE gm/\gm.Perm l:=by
 induction h with
 | nil=>intro l h;exact ⟨l,h,.refl _⟩
 | cons x _ bC=>
   intro l h;obtain ⟨e,es,rfl,J,ad,aC⟩:=h;obtain ⟨gm,g1,g2⟩:=bC aC;exact ⟨e::gm,⟨e,gm,rfl,J,ad,g1⟩,g2.cons e⟩
 | swap x y p0=>
   intro l h;obtain ⟨e,es,rfl,J,ad,dL,rb,rfl,aC,bn,b0⟩:=h;exact ⟨dL::e::rb,⟨dL,_,rfl,aC,bn,e,rb,rfl,J,ad,b0⟩,List.Perm.swap _ _ _⟩
 | trans _ _ Jy Jz=>
   intro l h;obtain ⟨gH,g1,g2⟩:=Jz h;obtain ⟨jK,g3,g4⟩:=Jy g1;exact ⟨jK,g3,g4.trans g2⟩
theorem q5.S5 {E:Env}:∀{ms:List cM} {l:List MapEntry},e_ E ms l->q5 E (ms.map fun m=>(m.k,m.v)) l
 | [],l,h=>h
 | m::ms,l,h=>by obtain ⟨e,es,rfl,J,ad,_,bn⟩:=h;exact ⟨e,es,rfl,J,ad,q5.S5 bn⟩
theorem lU.S6 {E:Env}:∀{ms:List cM} {l:List MapEntry},q5 E (ms.map fun m=>(m.k,m.v)) l->lU E ms l
 | [],l,h=>h
 | m::ms,l,h=>by obtain ⟨e,es,rfl,J,ad,bn⟩:=h;exact ⟨e,es,rfl,J,ad,lU.S6 bn⟩
theorem bd.forget {aB:Fr} {E:Env} {h:ah} {w:World} (s:bd aB E h w) {b:aU} {p:jb} {es ms:List cM} {c:Nat} (an:h.get b=.mp es c) (ak:E b=some p) (ik:(ms.map fun m=>(m.k,m.v)).Perm (es.map fun m=>(m.k,m.v))):
 bd aB E (h.set b (.iF ms)) w:=by
 have aj:=s.at ak;rw [an] at aj;obtain ⟨p',a,hQ,dz,bp,hm⟩:=aj;rw [ak] at hQ;cases hQ;obtain ⟨l,g1,g2⟩:=q5.perm ik (q5.S5 hm);exact s.set (by rw [an];rfl) ak dz (anD _) (fun _ _=>rfl) rfl rfl rfl (fun _ _ _ e=>by cases e) ⟨p,a,c,l,ak,dz,bp,lU.S6 g1,g2⟩
theorem RG:∀(l:List Oper),(∀o ∈ l,o.dst=none)->∀{r dr:bO} {h aA:ah} {es:List ft},(gh P az ops l).run call r h=.ok es dr aA->∀o ∈ l,∃v H1 cN,(cU P az ops o).run call r H1=.val v cN
 | [],_,_,_,_,_,_,_,o,a1=>by simp at a1
 | x::xs,aZ,r,dr,h,aA,es,he,o,a1=>by
   obtain ⟨v,J,ic,ag,av,rfl⟩:=F_ he;rcases an2.1 a1 with rfl | a1
   . exact ⟨v,h,J,ag⟩
   . rw [aZ x (by simp)] at av;exact RG xs (fun cp ij=>aZ cp (by simp [ij])) av o a1
theorem ahh {t:TypeId} {H H1:ah} {c:aU} {off:Nat} (h:H.get c=H1.get c):(qH P t).run H (.ptr c off)=(qH P t).run H1 (.ptr c off):=by
 unfold qH;cases bg P t with
 | none=>rfl
 | some aO=>
   simp only;cases aO.agg with
   | true=>simp only [anC,ot,V.j0,h]
   | false=>
     simp only [anN];cases Nat.beq aO.size 1 with
     | true=>simp only [anC,ou,V.j0,h]
     | false=>rfl
theorem Z' {o:Oper} {t:TypeId} {x:Operand} (a1:o.op=.load t x) (an:o.guard=none) {r:bO} {H1 ab:ah} {v:V} (he:(cU P az ops o).run call r H1=.val v ab) {c:aU} {off:Nat} (ar:(bZ x).run (dM r (b2 ops o))=.ptr c off)
 (H:ah) (np:H.get c=H1.get c):(cU P az ops o).run call r H=.val v H:=by
 obtain ⟨J,ad⟩:=k9 he;have key:cU P az ops o=⟨jW none (fW P o) (b2 ops o)⟩:=by unfold cU;rw [show (fO az o.dst&&js (b2 ops o))=true from by rw [J,ad];rfl,an];rfl
 rw [key] at he ⊢;simp only [jW] at he ⊢;have vV:∀H,(fW P o).run call (dM r (b2 ops o)) H=a8.of H ((qH P t).run H (.ptr c off)):=by intro H;unfold fW;rw [a1];simp only [ar]
 rw [vV] at he ⊢;rw [ahh np];exact a8.w1 he H
theorem Sw {es:List ft} {h:ah} {b:aU}:∀{is:List Nat} {p:Nat},Ca P ops es h b call az is p=true->∀q i o t x,is[q]? =some i->ops[i]? =some o->o.op=.load t x->
 ∃e c off ab,es[p+q]? =some e/\(bZ x).run (dM e.r (b2 ops o))=.ptr c off/\c≠b/\o.guard=none/\(cU P az ops o).run call e.r h=.val e.v ab
 | [],_,_,q,i,o,t,x,h,_,_=>by simp at h
 | j::aei,p,aw,q,i,o,t,x,aq,a1,nv=>by
   simp only [Ca] at aw;cases q with
   | succ q=>
     cases bI:ops[j]? with
     | none=>rw [bI] at aw;cases aw
     | some am0=>
       rw [bI] at aw;simp only [anu] at aw;have:=Sw aw.2 q i o t x (by simpa using aq) a1 nv;rw [show p + (q+1)=p+1+q from by omega];exact this
   | zero=>
     simp only [anR,ant] at aq;subst aq;rw [a1] at aw;simp only [anu] at aw;have J:=aw.1;rw [nv] at J;simp only at J;rw [ao7];cases he:es[p]? with
     | none=>rw [he] at J;cases J
     | some e=>
       rw [he] at J;simp only at J;cases ar:(bZ x).run (dM e.r (b2 ops o))<;>rw [ar] at J<;>simp only at J<;>try (cases J;done)
       rename_i c off;simp only [anu,aoB] at J;cases an:o.guard with
       | some _=>rw [an] at J;cases J.2
       | none=>
         rw [an] at J;simp only at J;have ad:=J.2;cases aK:(cU P az ops o).run call e.r h with
         | fail=>rw [aK] at ad;cases ad
         | c1 _ _=>rw [aK] at ad;cases ad
         | val v ab=>
           rw [aK] at ad;have bB:=HR ad;exact ⟨e,c,off,ab,rfl,ar,(fun e=>by rw [e,aU.AX] at J;cases J.1),rfl,by rw [aK,bB]⟩
theorem yW {k:Nat}:∀{l:List Nat} {p:Nat},l.Nodup->l[p]? =some k->l.idxOf k=p
 | [],_,_,h=>by simp at h
 | x::xs,p,aX,h=>by
   rw [apJ] at aX;cases p with
   | zero=>
     simp only [anR,ant] at h;subst h;simp
   | succ p=>
     have ar:xs[p]? =some k:=by simpa using h
     have eC:x≠k:=fun e=>aX.1 (e ▸ aob ar);rw [List.idxOf_cons];simp only [ao5,eC,anN,show (x == k)=false from by simpa using eC];rw [yW aX.2 ar]
def nB (ops:Array Oper) (i:Nat):Bool:=
 match ops[i]? with
 | some o=>l9 o
 | none=>false
theorem EL {o:Oper} {A:xu} (h:mN o=some A):l9 o=true/\fy P o.op=true/\hq o=false:=by obtain ⟨a1,_,_⟩:=BL h;refine ⟨by unfold l9;rw [a1],by rw [a1];rfl,by unfold hq;rw [a1]⟩
theorem ahb {aF:List Nat} {cR de:Nat} {t:TypeId} (aA:B_ P ops aF cR de t=true):∀i o,ops[i]? =some o->∃c',(fp [] ops.toList)[i]? =some c'/\nG i o=true/\
 (∀k ok,ops[k]? =some ok->∃mk,(fp [] ops.toList)[k]? =some mk/\pL i c' (b2 ops o) o.dst k mk ok (Nat.blt (posOf aF k) (posOf aF i))=true)/\
 (posOf aF i<cR->l9 o=false/\eX P o=false/\(looks o.op=true->fy P o.op=false->∃t x,o.op=.load t x))/\
 (¬posOf aF i<cR->posOf aF i<de->∃A,mN o=some A/\A.t=t)/\
 (¬posOf aF i<cR->¬posOf aF i<de->fy P o.op=false/\looks o.op=false):=by
 unfold B_ at aA;simp only [anu] at aA;replace aA:=aA.2;intro i o au;obtain ⟨c',J,ad⟩:=qZ aA i o (by simpa using au);simp only [an8,anu] at ad;obtain ⟨⟨aC,bn⟩,b0⟩:=ad;refine ⟨c',J,aC,fun k ok ay=>?_,fun aH=>?_,fun kx aH=>?_,fun kx acs=>?_⟩
 . obtain ⟨mk,bX,b_⟩:=qZ bn k ok (by simpa using ay);simp only [an8] at b_;exact ⟨mk,bX,b_⟩
 . rw [show Nat.blt (posOf aF i) cR=true from by rw [aoa];exact aH] at b0;simp only [anC,anu,aoB,aoR] at b0;refine ⟨b0.1.1,b0.1.2,fun aw he=>?_⟩;rcases b0.2 with (h | h) | h
   . rw [aw] at h;cases h
   . rw [he] at h;cases h
   . cases nv:o.op<;>rw [nv] at h<;>simp only at h<;>first
      | (cases h;done)
      | exact ⟨_,_,rfl⟩
 . rw [show Nat.blt (posOf aF i) cR=false from by rw [<-aof,aoa];exact kx,show Nat.blt (posOf aF i) de=true from by rw [aoa];exact aH] at b0;simp only [anC,anN] at b0;cases bF:mN o with
   | none=>rw [bF] at b0;cases b0
   | some A=>rw [bF] at b0;exact ⟨A,rfl,aom b0⟩
 . rw [show Nat.blt (posOf aF i) cR=false from by rw [<-aof,aoa];exact kx,show Nat.blt (posOf aF i) de=false from by rw [<-aof,aoa];exact acs] at b0;simp only [anN,anu,aoB] at b0;exact b0
theorem ahc {order:List Nat} {es:List ft} {cR:Nat} {b:aU} {j4:bO} {A:xu} (h:E4 ops order es cR=some (b,j4,A)):
 ∃e i o,es[cR]? =some e/\order[cR]? =some i/\ops[i]? =some o/\mN o=some A/\e.r=j4:=by
 unfold E4 at h;cases he:es[cR]? with
 | none=>rw [he] at h;cases h
 | some e=>
   rw [he] at h;simp only at h;cases au:order[cR]? with
   | none=>rw [au] at h;cases h
   | some i=>
     rw [au] at h;simp only at h;cases a1:ops[i]? with
     | none=>rw [a1] at h;cases h
     | some o=>
       rw [a1] at h;simp only at h;cases bF:mN o with
       | none=>rw [bF] at h;cases h
       | some kJ=>
         rw [bF] at h;simp only at h;cases hm:(bZ kJ.m).run (dM e.r (b2 ops o))<;>rw [hm] at h<;>simp only at h<;>try (cases h;done)
         simp only [ant,aoS] at h;obtain ⟨_,ad,rfl⟩:=h;exact ⟨e,i,o,rfl,rfl,a1,bF,ad⟩
theorem SE {r:bO} {b:aU} {f:Nat->V × V} (aA:∀i m,lQ ops r b i m->f i=(m.k,m.v)):∀{is:List Nat} {ms:List cM},p1 (fun i (m:cM)=>∃dD,lQ ops r b i dD/\m.k=dD.k/\m.v=dD.v) is ms->ms.map (fun m=>(m.k,m.v))=is.map f
 | _,_,.nil=>rfl
 | _,_,.cons (a:=i) (b:=m) a6 aE=>by obtain ⟨dD,J,ad,aC⟩:=a6;simp only [aow,SE aA aE,aA i dD J,ad,aC]
theorem zr {n:Nat} {order aF:List Nat} (ik:mT n order aF=true) {p i:Nat} (h:order[p]? =some i):posOf aF i=p/\i<n:=by unfold mT at ik;simp only [anu,an6] at ik;obtain ⟨_,ad,_,bn⟩:=ik;have:=uK bn h;rw [an8] at this;refine ⟨by unfold posOf;rw [this];rfl,?_⟩;have:=(anU.1 this).1;omega
theorem ahX {l:List Nat} {f:Nat->Nat} (h:∀p i,l[p]? =some i->f i=p):l.Nodup:=by rw [List.Nodup,List.pairwise_iff_getElem];intro i j au bI rq he;have J:=h i _ (anv au);have ad:=h j _ (anv bI);rw [he,ad] at J;omega
theorem p1.left {α β:Type} {R:α->β->Prop}:∀{gH:List α} {jK:List β},p1 R gH jK->∀x ∈ gH,∃y ∈ jK,R x y
 | _,_,.nil,x,h=>by simp at h
 | _,_,.cons a6 aE,x,h=>by
   rcases an2.1 h with rfl | h
   . exact ⟨_,by simp,a6⟩
   . obtain ⟨y,J,ad⟩:=aE.left x h;exact ⟨y,by simp [J],ad⟩
theorem ad9 {o:Oper} (h:l9 o=true):fy P o.op=true/\hq o=false:=by
 unfold l9 at h;unfold hq;cases a1:o.op<;>rw [a1] at h<;>simp only at h<;>first
  | (cases h;done)
  | exact ⟨rfl,rfl⟩
theorem ak0 {pre σ post:List Nat} (pt:(pre++(σ++post)).Nodup) (k q:Nat):(pre[q]? =some k->(pre++(σ++post)).idxOf k=q)/\(σ[q]? =some k->(pre++(σ++post)).idxOf k=pre.length+q)/\(post[q]? =some k->(pre++(σ++post)).idxOf k=pre.length+σ.length+q):=by
 refine ⟨fun h=>yW pt ?_,fun h=>yW pt ?_,fun h=>yW pt ?_⟩
 . have:=(anU.1 h).1;rw [anX this];exact h
 . have:=(anU.1 h).1;rw [anW (by omega),apr,anX this];exact h
 . rw [anW (by omega),anW (by omega)];rw [show pre.length+σ.length+q-pre.length-σ.length=q from by omega];exact h
theorem ahd {rd:Option Nat} {D:List Deferred} {aB:Fr} {calls:Nat->eA} {es:List ft} {ba:bO} {a6:ah} {dr:bO} {aA:ah} {fb order aF:List Nat} (aM:fa P) (db:∀i,hA P (calls i)) (eh:∀i,hI P (calls i))
 (C:Cert P az ops calls es ba a6 dr aA fb order aF ops.size ops.size true) {iJ:Env} {Q:Exit->Act->World->Prop}
 (dX:∀ax bw w',iJ.le ax->RegRel0 ax az dr bw->bw.defers=D->bd aB ax aA w'->Q .normal bw w') {xQ:List Nat}
 (hb:∀i k,nB ops i=true->nB ops k=true->posOf aF k<posOf aF i->∀a b,xQ=a++i::b->k ∈ a):
 ∀(fuel t:Nat) (listed:Array Bool) (done:List Nat) (a:Act) (w:World),xQ=done++Region.linearise.go .any ops fuel t listed []->(∀k,k<ops.size->(listed.getD k false=true↔k ∈ done))->
  (List.range ops.size).countP (fun i=>!listed.getD i false)<=fuel->q0 P aB az ops es ba aA fb aF iJ ops.size D listed a w->wpOpsIn (cd rd) 0 P ops Q (Region.linearise.go .any ops fuel t listed []) a w:=by
 have jh:∀i o,ops[i]? =some o->nG i o=true:=fun i o h=>by obtain ⟨_,_,ad,_⟩:=C.n1 i o h;exact ad
 have fin:∀(listed:Array Bool) (a:Act) (w:World),(∀k,k<ops.size->listed.getD k false=true)->q0 P aB az ops es ba aA fb aF iJ ops.size D listed a w->Q .normal a w:=by intro listed a w dx I;obtain ⟨ax,g1,g2,g3,g4⟩:=Pj C (anD _) I fun k ay _=>dx k ay;exact dX ax a w g1 g2 g3 g4
 intro fuel
 induction fuel with
 | zero=>
   intro t listed done a w ss IV ao I;have a6:(List.range ops.size).countP (fun i=>!listed.getD i false)=0:=by omega
   rw [List.countP_eq_zero] at a6;exact fin listed a w (fun k ay=>by simpa using a6 k (ao9.2 ay)) I
 | succ fuel bC=>
   intro t listed done a w ss IV ao I;rw [go_succ] at ss ⊢;cases aK:w_ ops t listed with
   | none=>exact fin listed a w (fun k ay=>zs jh I.sW (T2 aK) k ay) I
   | some i=>
     rw [aK] at ss;simp only at ss ⊢;obtain ⟨i1,i2⟩:=xa I.sW (KR aK);have aw:i<listed.size:=by rw [I.sW];exact i1
     have amo:=count_set I.sW i1 i2;rw [wpOpsIn_cons];refine Ps aM db eh C I (KR aK) (C.iV i i1).1 (fun _ o k ok cP wb Ew acF aH=>?_) (fun bw w' Gw=>bC _ _ (done++[i]) bw w' (by rw [anG];exact ss) (fun k ay=>?_) (by omega) Gw) (fun _ _ _ _ _ _ _ h=>absurd h (aoT _))
     . have ay:k<ops.size:=(anx.1 Ew).1;exact (IV k ay).2 (hb i k (by unfold nB;rw [cP];exact wb) (by unfold nB;rw [Ew];exact acF) aH _ _ ss)
     . rw [gq aw,IV k ay,apw,apc];exact Or.comm
def HM (ops:Array Oper) (r:bO) (b:aU) (i:Nat):V × V:=
 match ops[i]? with
 | some o=>(match ue ops r b o with
   | some m=>(m.k,m.v)
   | none=>(.bad,.bad))
 | none=>(.bad,.bad)
theorem Pz {r:bO} {b:aU} {i:Nat} {m:cM} (h:lQ ops r b i m):HM ops r b i=(m.k,m.v):=by obtain ⟨o,J,ad⟩:=h;unfold HM;rw [J];simp only [ad]
theorem SF {r:bO} {b:aU}:∀{is:List Nat} {ms:List cM},p1 (lQ ops r b) is ms->ms.map (fun m=>(m.k,m.v))=is.map (HM ops r b)
 | _,_,.nil=>rfl
 | _,_,.cons a6 aE=>by simp only [aow,SF aE,Pz a6]
theorem ahe {rd:Option Nat} {aB:Fr} {E:Env} {h:ah} {w:World} {id:Nat} (dE:P.follows .mixedOrders=true) (aM:fa P) (db:hA P call) (eh:hI P call) {r:bO} {a:Act} {order aF:List Nat} {cR de:Nat} (ik:mT ops.size order aF=true)
 {Q:Exit->Act->World->Prop} (ak:oJ aB E az (Q .normal) Q (J2 P az ops order aF cR de (gh P az ops (h2 ops order)) call r h)) (k:fZ E az r a) (s:bd aB E h w):(Code.region id ops true).wpIn (cd rd) 0 P Q a w:=by
 unfold J2 at ak;cases dh:(gh P az ops (h2 ops order)).run call r h with
 | fail=>rw [dh] at ak;exact ak.elim
 | c1 _ _ _ _ _=>rw [dh] at ak;exact ak.elim
 | ok es eJ bp=>
 rw [dh] at ak;simp only at ak;cases nt:E4 ops order es cR with
 | none=>rw [nt] at ak;exact ak.elim
 | some x=>
 obtain ⟨b,j4,A⟩:=x;rw [nt] at ak;simp only at ak;cases n5:(cv es bp cR).get b<;>rw [n5] at ak<;>try (exact False.elim ak)
 rename_i aar tB;cases aar with
 | cons _ _=>exact False.elim ak
 | nil=>
 simp only at ak;cases yD:wJ ops j4 b ((order.drop cR).take (de-cR)) with
 | none=>rw [yD] at ak;exact ak.elim
 | some ms=>
 rw [yD] at ak;simp only at ak;cases ao:(B_ P ops aF cR de A.t&&(As (uj P A.t) ms&&(Ca P ops es (cv es bp cR) b call az (order.take cR) 0&&AZ ((bZ A.m).run eJ) (.map b)))) with
 | false=>rw [ao] at ak;exact ak.elim
 | true=>
 rw [ao] at ak;simp only [anC] at ak;simp only [anu] at ao;obtain ⟨Ex,En,eB,sD⟩:=ao;have sD:=HR sD;obtain ⟨ob,TB,am3⟩:=Tv ik;have I3:order.Nodup:=ahX fun p i h=>(zr ik h).1;obtain ⟨dI,i0,iG,IA,bT,ac2,A7,acp⟩:=ahc nt;obtain ⟨ajd,-,-,-⟩:=uV dh;have hlen:es.length=ops.size:=by rw [ajd,qI,ob]
 have iP:cR<ops.size:=by rw [<-ob];exact (anU.1 bT).1
 have n1:=ahb Ex;generalize mK:order.take cR=pre at eB;generalize wb:(order.drop cR).take (de-cR)=ins at yD;generalize Q7:(order.drop cR).drop (de-cR)=post;have qw:order=pre++(ins++post):=by rw [<-mK,<-wb,<-Q7,ao1,ao1]
 have yI:pre.length=cR:=by rw [<-mK,aod];omega
 have amw:cR<de:=by
  obtain ⟨wm,_⟩:=zr ik bT;rcases aoG cR de with h | h
  . exact h
  . exfalso;obtain ⟨_,_,_,_,_,_,f3⟩:=n1 i0 iG ac2;obtain ⟨ar,_⟩:=f3 (by omega) (by omega);rw [(EL (P:=P) A7).2.1] at ar;cases ar
 have acD:ins.length=de-cR\/post=[]:=by
  rcases aoG (de-cR) (order.drop cR).length with h | h
  . left;rw [<-wb,aod];omega
  . right;rw [<-Q7];exact an5 h
 have Hf:∀q i,pre[q]? =some i->posOf aF i=q/\i<ops.size/\q<cR:=by intro q i h;have aq:=(anU.1 h).1;obtain ⟨J,ad⟩:=zr ik (p:=q) (i:=i) (by rw [qw,anX aq];exact h);exact ⟨J,ad,by omega⟩
 have Hd:∀q i,ins[q]? =some i->posOf aF i=cR+q/\i<ops.size/\cR+q<de:=by
  intro q i h;have aq:=(anU.1 h).1;obtain ⟨J,ad⟩:=zr ik (p:=cR+q) (i:=i) (by rw [qw,anW (by omega),yI,apr,anX aq];exact h);refine ⟨J,ad,?_⟩;have:ins.length<=de-cR:=by rw [<-wb,aod];omega
  omega
 have He:∀q i,post[q]? =some i->posOf aF i=cR+ins.length+q/\i<ops.size/\ins.length=de-cR:=by
  intro q i h;have aw:ins.length=de-cR:=by
   rcases acD with ab | ab
   . exact ab
   . rw [ab] at h;simp at h
  obtain ⟨J,ad⟩:=zr ik (p:=cR+ins.length+q) (i:=i) (by rw [qw,anW (by omega),anW (by omega),yI,show cR+ins.length+q-cR-ins.length=q from by omega];exact h);exact ⟨J,ad,aw⟩
 have Vh:∀i,i<ops.size->(∃q:Nat,pre[q]? =some i)\/(∃q:Nat,ins[q]? =some i)\/∃q:Nat,post[q]? =some i:=by
  intro i au;have hm:i ∈ order:=aob (TB i au).2;rw [qw,apw,apw] at hm;rcases hm with h | h | h
  . exact .inl (aoi.1 h)
  . exact .inr (.inl (aoi.1 h))
  . exact .inr (.inr (aoi.1 h))
 have KH:∀i o,i ∈ pre->ops[i]? =some o->l9 o=false/\eX P o=false/\(looks o.op=true->fy P o.op=false->∃t x,o.op=.load t x):=by intro i o au a1;obtain ⟨q,aq⟩:=aoi.1 au;obtain ⟨J,ad,aC⟩:=Hf q i aq;obtain ⟨_,_,_,_,f1,_,_⟩:=n1 i o a1;exact f1 (by omega)
 have BM:∀i,i ∈ ins->∃o kJ,ops[i]? =some o/\mN o=some kJ/\kJ.t=A.t:=by intro i au;obtain ⟨q,aq⟩:=aoi.1 au;obtain ⟨J,ad,aC⟩:=Hd q i aq;obtain ⟨_,_,_,_,_,f2,_⟩:=n1 i _ (anQ ad);obtain ⟨kJ,g1,g2⟩:=f2 (by omega) (by omega);exact ⟨_,kJ,anQ ad,g1,g2⟩
 have CA:∀i o,i ∈ post->ops[i]? =some o->fy P o.op=false/\looks o.op=false:=by intro i o au a1;obtain ⟨q,aq⟩:=aoi.1 au;obtain ⟨J,ad,aC⟩:=He q i aq;obtain ⟨_,_,_,_,_,_,f3⟩:=n1 i o a1;exact f3 (by omega) (by omega)
 have JB:∀i,i<ops.size->(nB ops i=true↔i ∈ ins):=by
  intro i au;have cP:ops[i]? =some ops[i]:=anQ au;constructor
  . intro h;unfold nB at h;rw [cP] at h;simp only at h;rcases Vh i au with ⟨q,aq⟩ | ⟨q,aq⟩ | ⟨q,aq⟩
    . rw [(KH i _ (aob aq) cP).1] at h;cases h
    . exact aob aq
    . have:=(CA i _ (aob aq) cP).1;rw [(ad9 (P:=P) h).1] at this;cases this
  . intro h;obtain ⟨o,kJ,g1,g2,_⟩:=BM i h;unfold nB;rw [g1];exact (EL (P:=P) g2).1
 have I4:ins.Nodup:=by rw [qw] at I3;exact (List.nodup_append.1 (List.nodup_append.1 I3).2.1).1
 have BA:=dh;rw [qw,Cr,Cr] at BA;obtain ⟨ic,bM,J,aas,wy,Q',rl⟩:=K' _ _ BA;obtain ⟨re,dw,ad,HS,mL,adb,amp⟩:=K' _ _ Q';obtain ⟨gH,-,-,-⟩:=uV wy;rw [qI,yI] at gH;obtain ⟨-,b4,b1,-⟩:=uV Q';have QB:aas[0]? =some dI:=by rw [rl,anW (by omega),gH,apf] at IA;exact IA
 have adf:bM=j4:=by unfold e8 at b1;rw [QB] at b1;exact b1.symm.trans acp
 have acy:cv es bp cR=J:=by unfold cv at b4 ⊢;rw [IA];rw [QB] at b4;exact b4
 subst adf;rw [acy] at n5 eB;have qj:∀i ∈ ins,∃o kJ m,ops[i]? =some o/\mN o=some kJ/\(BW P kJ.t=true/\uj P kJ.t=uj P A.t)/\ue ops bM b o=some m/\∃v H1 cN,(cU P az ops o).run call bM H1=.val v cN:=by
  intro i au;obtain ⟨o,kJ,g1,g2,g3⟩:=BM i au;obtain ⟨m,_,cp,g4,g5⟩:=(EK yD).left i au;rw [g1] at g4;cases g4;refine ⟨o,kJ,m,g1,g2,⟨by rw [g3];unfold B_ at Ex;rw [anu] at Ex;exact Ex.1,by rw [g3]⟩,g5,RG (h2 ops ins) (fun c0 yF=>?_) mL o ?_⟩
  . obtain ⟨q,aq⟩:=aoi.1 yF;have tV:q<ins.length:=by rw [<-qI (ops:=ops)];exact (anU.1 aq).1
    obtain ⟨amW,k2,BP,wL,_⟩:=BM _ (anB tV);have:=oy (anv tV) BP;rw [aq] at this;cases this;exact (BL wL).2.1
  . obtain ⟨q,aq⟩:=aoi.1 au;exact aob (oy aq g1)
 have Eo:=L9 (EK yD) I4 En;obtain ⟨al_,amT,al3,nL,H3,ame,amf,aa1,_,amg⟩:=JD qj Eo ins [] [] tB J (fun i au=>au) (fun i au=>by simp at au) (by simpa using I4) (fun m hm=>by simp at hm) n5;rw [mL] at H3;simp only [q1.ok.injEq] at H3;obtain ⟨-,ada,abP⟩:=H3;subst ada abP
 obtain ⟨yx,ac_⟩:=TT (h2 ops post) (fun c0 yF=>by
  obtain ⟨q,aq⟩:=aoi.1 yF;have tV:q<post.length:=by rw [<-qI (ops:=ops)];exact (anU.1 aq).1
  obtain ⟨_,QK,_⟩:=He q _ (anv tV);have:=oy (anv tV) (anQ QK);rw [aq] at this;cases this;exact CA _ _ (anB tV) (anQ QK)) adb
 subst yx;refine wpIn_region_draw fun t=>?_;simp only [Region.schedule,dE,Bool.true_or,an7];have jh:∀i o,ops[i]? =some o->nG i o=true:=fun i o h=>by obtain ⟨_,_,ad,_⟩:=n1 i o h;exact ad
 have ec:∀k,¬(Array.replicate ops.size false).getD k false=true:=by
  intro k;rw [tI,Array.getElem?_replicate]
  split<;>simp
 obtain ⟨s1,s2,uT⟩:=Qe (ops:=ops) jh ops.size t (Array.replicate ops.size false) (by simp) (aol apv (by simp));change wpOpsIn (cd rd) 0 P ops Q (Region.linearise.go .any ops ops.size t (Array.replicate ops.size false) []) a {w with drawn:=w.drawn+1};generalize ss:Region.linearise.go .any ops ops.size t (Array.replicate ops.size false) []=xQ at s1 s2 uT;generalize Jv:xQ.filter (nB ops)=σ;have Ka:∀k,k ∈ σ↔k ∈ ins:=by
  intro k;rw [<-Jv,List.mem_filter];constructor
  . rintro ⟨g1,g2⟩;exact (JB k (s2 k g1).1).1 g2
  . intro g;obtain ⟨q,aq⟩:=aoi.1 g;have ay:=(Hd q k aq).2.1;refine ⟨?_,(JB k ay).2 g⟩;rcases uT k ay with h | h
    . exact absurd h (ec k)
    . exact h
 have Q1:σ.Nodup:=by rw [<-Jv];exact s1.filter _
 have Jb:σ.Perm ins:=(List.perm_ext_iff_of_nodup Q1 I4).2 Ka;have Rt:σ.length=ins.length:=Jb.length_eq;have mJ:(pre++(σ++post)).Perm order:=by rw [qw];exact (Jb.append_right post).append_left pre
 have I5:(pre++(σ++post)).Nodup:=mJ.nodup_iff.2 I3;have Bq:(pre++(σ++post)).length=ops.size:=by rw [mJ.length_eq,ob]
 have Dy:=ak0 I5;generalize ac8:(List.range ops.size).map (fun k=>(pre++(σ++post)).idxOf k)=lG;have yH:∀k,k<ops.size->posOf lG k=(pre++(σ++post)).idxOf k:=by intro k ay;rw [<-ac8];unfold posOf;rw [aoo,List.getElem?_range ay];rfl
 have Cv:∀i,i<ops.size->i ∈ pre->posOf lG i=posOf aF i/\posOf aF i<cR:=by intro i au hm;obtain ⟨q,aq⟩:=aoi.1 hm;obtain ⟨g1,_,g3⟩:=Hf q i aq;rw [yH i au,(Dy i q).1 aq,g1];exact ⟨rfl,g3⟩
 have Cu:∀i,i<ops.size->i ∈ ins->∃q:Nat,σ[q]? =some i/\posOf lG i=cR+q/\q<ins.length/\cR<=posOf aF i/\posOf aF i<cR+ins.length:=by intro i au hm;obtain ⟨q,aq⟩:=aoi.1 ((Ka i).2 hm);obtain ⟨fH,sF⟩:=aoi.1 hm;obtain ⟨g1,_,g3⟩:=Hd fH i sF;have:=(anU.1 aq).1;have:=(anU.1 sF).1;exact ⟨q,aq,by rw [yH i au,(Dy i q).2.1 aq,yI],by omega,by omega,by omega⟩
 have Kz:∀i,i<ops.size->i ∈ post->posOf lG i=posOf aF i/\cR+ins.length<=posOf aF i:=by intro i au hm;obtain ⟨q,aq⟩:=aoi.1 hm;obtain ⟨g1,_,_⟩:=He q i aq;rw [yH i au,(Dy i q).2.2 aq,g1,Rt,yI];exact ⟨rfl,by omega⟩
 have cls:∀i,i<ops.size->i ∈ pre\/i ∈ ins\/i ∈ post:=by
  intro i au;rcases Vh i au with ⟨q,aq⟩ | ⟨q,aq⟩ | ⟨q,aq⟩
  . exact .inl (aob aq)
  . exact .inr (.inl (aob aq))
  . exact .inr (.inr (aob aq))
 obtain ⟨vJ,amU,al4,Aa,P',aa2,aa3,aa4,aa6,aa5⟩:=JD qj Eo σ [] [] tB J (fun i au=>(Ka i).1 au) (fun i au=>by simp at au) (by simpa using Q1) (fun m hm=>by simp at hm) n5;obtain ⟨x7,ade⟩:=ac_ Aa;have Rd:=K_ _ _ wy (K_ _ _ P' ade);rw [<-Cr,<-Cr] at Rd;obtain ⟨agD,-,-,-⟩:=uV P';rw [qI,Rt] at agD;obtain ⟨da,z2,z3,z4⟩:=uV Rd;rw [qI,Bq] at da;have TC:∀k,k<ops.size->posOf lG k<ops.size/\(pre++(σ++post))[posOf lG k]? =some k:=by intro k ay;have hm:k ∈ pre++(σ++post):=mJ.mem_iff.2 (aob (TB k ay).2);obtain ⟨q,aq⟩:=aoi.1 hm;have EC:=yW I5 aq;rw [yH k ay,EC];have:=(anU.1 aq).1;exact ⟨by omega,aq⟩
 have aiO:∀p,p<ops.size->∃i,i<ops.size/\posOf lG i=p:=by intro p ak;have aq:(pre++(σ++post))[p]? =some ((pre++(σ++post))[p]'(by omega)):=anv _;have hm:(pre++(σ++post))[p]'(by omega) ∈ order:=mJ.mem_iff.1 (anB _);obtain ⟨q,wv⟩:=aoi.1 hm;have aH:=(zr ik wv).2;exact ⟨_,aH,by rw [yH _ aH];exact yW I5 aq⟩
 have OT:∀j o,ops[j]? =some o->eX P o=true->j ∈ ins:=by
  intro j o a1 nr;rcases cls j (anx.1 a1).1 with h | h | h
  . rw [(KH j o h a1).2.1] at nr;cases nr
  . exact h
  . unfold eX at nr;rw [(CA j o h a1).1] at nr;cases nr
 have JC:∀k ok,k ∈ ins->ops[k]? =some ok->ok.dst=none/\l9 ok=true:=by intro k ok ay bz;obtain ⟨o,kJ,g1,g2,_⟩:=BM k ay;rw [bz] at g1;cases g1;exact ⟨(BL g2).2.1,(EL (P:=P) g2).1⟩
 have WW:∀st,st=ops.size\/(∃k,k<ops.size/\k ∈ ins/\st=posOf lG k)->∀c,b≠c->(cv (ic++(vJ++x7)) Aa st).get c=J.get c:=by
  rintro st (rfl | ⟨k,ay,ho,rfl⟩) c ao
  . unfold cv;rw [an3 (by omega)];exact aa3 c ao
  . obtain ⟨q,_,g2,g3,_⟩:=Cu k ay ho;have wx:q<vJ.length:=by omega
    unfold cv;rw [g2,anW (by omega),gH,apr,anX wx,anv wx];exact aa6 _ (anB wx) c ao
 have C:Cert P az ops (fun _=>call) (ic++(vJ++x7)) r h eJ Aa (iq P lG 0 ops.toList) (pre++(σ++post)) lG ops.size ops.size true:=by
  refine ⟨da,anD _,anD _,TC,aiO,z2,z3,?_,?_,?_,?_,?_,?_,fun h=>absurd h (aoT _),fun h=>absurd h (aoT _)⟩
  . intro i o a1 _;exact z4 _ o (oy (TC i (anx.1 a1).1).2 a1)
  . intro i o cP;obtain ⟨c',f1,f2,f3,_⟩:=n1 i o cP;refine ⟨c',f1,f2,fun _ k ok bz _=>?_⟩;obtain ⟨mk,f4,f5⟩:=f3 k ok bz;have au:i<ops.size:=(anx.1 cP).1;have ay:k<ops.size:=(anx.1 bz).1;refine ⟨mk,f4,?_,fun he nr aH=>?_⟩
    . by_cases ho:k ∈ ins
      . unfold pL;rw [(JC k ok ho bz).1];simp
      . have aj:Nat.blt (posOf lG k) (posOf lG i)=Nat.blt (posOf aF k) (posOf aF i):=by
         rw [aon,aoa,aoa];rcases cls k ay with ao | ao | ao
         . obtain ⟨bP,a2⟩:=Cv k ay ao;rcases cls i au with aZ | aZ | aZ
           . obtain ⟨b9,cA⟩:=Cv i au aZ;omega
           . obtain ⟨q,_,cA,kO,nU,nV⟩:=Cu i au aZ;omega
           . obtain ⟨b9,cA⟩:=Kz i au aZ;omega
         . exact absurd ao ho
         . obtain ⟨bP,a2⟩:=Kz k ay ao;rcases cls i au with aZ | aZ | aZ
           . obtain ⟨b9,cA⟩:=Cv i au aZ;omega
           . obtain ⟨q,_,cA,kO,nU,nV⟩:=Cu i au aZ;omega
           . obtain ⟨b9,cA⟩:=Kz i au aZ;omega
        rw [aj];exact f5
    . have ho:=OT k ok bz nr;obtain ⟨am4,_,cA,kO,nU,nV⟩:=Cu k ay ho;rcases cls i au with aZ | aZ | aZ
      . obtain ⟨bP,a2⟩:=Cv i au aZ;omega
      . exact .inr ⟨rfl,(JC i o aZ cP).2,(JC k ok ho bz).2⟩
      . rw [(CA i o aZ cP).1] at he;cases he
  . have:=E1 (P:=P) (aF:=lG) (l:=ops.toList) (i:=0);simpa using this
  . intro j o g1 g2;have:=za (P:=P) (aF:=lG) (i:=0) (j:=j) (l:=ops.toList) (o:=o) (by simpa using g1) g2;simpa using this
  . intro st c8;rcases uu c8 with h | ⟨j,o,g1,g2,g3⟩
    . exact .inl (.inl (by simpa using h))
    . exact .inr ⟨j,o,by simpa using g1,g2,by simpa using g3⟩
  . intro j o rr aw he _;have bI:j<ops.size:=(anx.1 rr).1;have oV:j ∈ pre:=by
     rcases cls j bI with aZ | aZ | aZ
     . exact aZ
     . obtain ⟨cp,kJ,g1,g2,_⟩:=BM j aZ;rw [rr] at g1;cases g1;rw [(EL (P:=P) g2).2.1] at he;cases he
     . rw [(CA j o aZ rr).2] at aw;cases aw
    obtain ⟨o7,Vr,nv⟩:=(KH j o oV rr).2.2 aw he;obtain ⟨q,aq⟩:=aoi.1 oV;obtain ⟨bP,_,a3⟩:=Hf q j aq;obtain ⟨e,c,off,ab,fc,fA,y3,y4,alT⟩:=Sw eB q j o o7 Vr aq rr nv;have ack:(ic++(vJ++x7))[posOf lG j]? =some e:=by rw [(Cv j bI oV).1,bP,anX (by omega)];rw [an8,rl,anX (by omega)] at fc;exact fc
    refine ⟨e,ack,fun st c8 _=>⟨call,_,⟨db,eh⟩,Z' nv y4 alT fA _ (WW st ?_ c fun h=>y3 h.symm)⟩⟩;rcases uu c8 with h | ⟨bu,cp,g1,g2,g3⟩
    . exact .inl (by simpa using h)
    . have EA:ops[bu]? =some cp:=by simpa using g1
      exact .inr ⟨bu,(anx.1 EA).1,OT bu cp EA g2,by simpa using g3⟩
 have mE:∀(ax:Env) (bw:Act),E.le ax->bw.defers=a.defers->∀(bH:bO),T.get .bad fw bH=T.get .bad fw r->lP ax (T.get .bad fw bH) bw.defers:=fun ax bw he aZ bH sH=>by rw [sH,aZ];exact k.defers.mono he
 have Es:T.get .bad fw eJ=T.get .bad fw r:=by have:=C.HJ ops.size (anD _);have oW:(ic++(vJ++x7))[ops.size]? =none:=an3 (by omega);unfold e8 at this;rw [oW] at this;exact this
 have kT:Holds aB aB (ic++(vJ++x7)) Aa lG (kM ops (ic++(vJ++x7)) Aa lG (Array.replicate ops.size false) 0):=
  ⟨rfl,fun _ _=>rfl,fun k ay=>(by obtain ⟨_,_,_,_,a6⟩:=ay;omega),fun k bu ay=>(by obtain ⟨_,_,_,_,a6⟩:=ay;omega)⟩
 obtain ⟨h6,dn,g1,g2,g3,g4,g5,g6⟩:=C.advance ops.size 0 (by omega) (fun k o _ _ _=>ec k) aB kT (E:=E) (w:={w with drawn:=w.drawn}) (by rw [C.a6];exact s.same rfl rfl rfl rfl);rw [<-ss];refine ahd (aB:=aB) aM (fun _=>db) (fun _=>eh) C (iJ:=E) (D:=a.defers) (xQ:=xQ) (fun ax bw w' ag av aJ bU=>?_) (fun i k au ay aH bw bV abY=>?_) ops.size t _ [] a _ (by rw [ss];rfl) (fun k _=>⟨fun h=>absurd h (ec k),fun h=>by simp at h⟩) (aol apv (by simp)) ?_
 . refine ak ax bw w' ag ⟨av,mE ax bw ag aJ eJ Es⟩ ?_;have ny:=eb av A.m;rw [sD] at ny;simp only [Rel] at ny;obtain ⟨p,abO,_⟩:=ny;rw [aa1,<-aa4];refine bU.forget aa2 abO ?_;rw [anP,SF (EK yD),SE (fun i m h=>Pz h) aa5];exact Jb.symm.map _
 . have gR:i<ops.size:=by
    unfold nB at au;cases a1:ops[i]? with
    | none=>rw [a1] at au;cases au
    | some o=>exact (anx.1 a1).1
   have IQ:k<ops.size:=by
    unfold nB at ay;cases a1:ops[k]? with
    | none=>rw [a1] at ay;cases ay
    | some o=>exact (anx.1 a1).1
   have ho:=(JB k IQ).1 ay;have Rs:σ=bw.filter (nB ops)++i::bV.filter (nB ops):=by rw [<-Jv,abY,List.filter_append,List.filter_cons_of_pos au]
   have kz:posOf lG i=cR + (bw.filter (nB ops)).length:=by rw [yH i gR,(Dy i (bw.filter (nB ops)).length).2.1 (by rw [Rs,anW (anD _),apf];rfl),yI]
   obtain ⟨q,aq,mI,_⟩:=Cu k IQ ho;have tV:q < (bw.filter (nB ops)).length:=by omega
   rw [Rs,anX tV] at aq;exact (List.mem_filter.1 (aob aq)).1
 . refine ⟨by simp,k.size,rfl,fun bu ay=>absurd ay (ec bu),fun bu o e ay=>absurd ay (ec bu),E,h6,dn,Env.le.refl E,g1,g3,fun bu o J ad=>⟨fun h=>absurd h (ec bu),fun h=>by have:=g4 bu o J ad (apj _);omega⟩,
    fun bu o _ _ h=>absurd h (ec bu),g5,?_,fun t aE=>.inr ⟨fun bu o ay=>absurd ay (ec bu),k.af t aE⟩⟩
   exact g6.same rfl rfl rfl rfl
theorem aab {rd:Option Nat} {aB:Fr} {E:Env} {h:ah} {w:World} {id:Nat} (dE:P.follows .mixedOrders=true) (aM:fa P) (db:hA P call) (eh:hI P call) {r:bO} {a:Act}
 {Q:Exit->Act->World->Prop} (ak:oJ aB E az (Q .normal) Q ((HG P az ops).run call r h)) (k:fZ E az r a) (s:bd aB E h w):(Code.region id ops true).wpIn (cd rd) 0 P Q a w:=by
 unfold HG at ak;generalize Ct P ops=order at ak;generalize FB order 0 ops.toList=aF at ak;unfold Pq at ak;cases aA:(mT ops.size order aF&&x2 P ops aF) with
 | false=>
   rw [aA] at ak;simp only [anN] at ak;cases ke:(mT ops.size order aF&&CN P ops order aF) with
   | false=>
     rw [ke] at ak;simp only [anN] at ak;cases IG:mT ops.size order aF with
     | false=>rw [IG] at ak;exact ak.elim
     | true=>
       rw [IG] at ak;simp only [anC] at ak;exact ahe dE aM db eh IG ak k s
   | true=>
     rw [ke] at ak;simp only [anC] at ak;simp only [anu] at ke;exact aac dE aM db eh ke.1 ke.2 ak k s
 | true=>
   rw [aA] at ak;simp only [anC] at ak;simp only [anu] at aA;obtain ⟨ik,hZ⟩:=aA;unfold mT at ik;simp only [anu,an6] at ik;obtain ⟨ob,yF,Bs,Bt⟩:=ik;have iV:∀k,k<ops.size->posOf aF k<ops.size/\order[posOf aF k]? =some k:=by
    intro k ay;have an:aF[k]? =some (posOf aF k):=by unfold posOf;rw [anv (by omega)];rfl
    have:=uK Bs an;rw [an8] at this;exact ⟨by have:=(anU.1 this).1;omega,this⟩
   have mj:∀p,p<ops.size->∃i,i<ops.size/\posOf aF i=p:=by intro p ak;have an:order[p]? =some (order[p]'(by omega)):=anv (by omega);have:=uK Bt an;rw [an8] at this;refine ⟨order[p]'(by omega),by have:=(anU.1 this).1;omega,?_⟩;unfold posOf;rw [this];rfl
   have K9:∀j o,ops[j]? =some o->eX P o=true->posOf aF j ∈ iq P aF 0 ops.toList:=fun j o J ad=>by simpa using za (aF:=aF) (i:=0) (j:=j) (l:=ops.toList) (by simpa using J) ad
   have aky:ops.size ∈ iq P aF 0 ops.toList:=by simpa using E1 (P:=P) (aF:=aF) (l:=ops.toList) (i:=0)
   have UK:∀N M,∀s ∈ iq P aF 0 ops.toList,(s=ops.size\/(s=N/\M=N))\/∃k o,ops[k]? =some o/\eX P o=true/\s=posOf aF k:=fun N M s aL=>by
    rcases uu aL with h | ⟨j,o,J,ad,aC⟩
    . exact .inl (.inl (by simpa using h))
    . exact .inr ⟨j,o,by simpa using J,ad,by simpa using aC⟩
   have QE:∀i o,ops[i]? =some o->∃c',(fp [] ops.toList)[i]? =some c'/\nG i o=true/\(posOf aF i<ops.size->
    ∀k ok,ops[k]? =some ok->posOf aF k<ops.size->∃mk,(fp [] ops.toList)[k]? =some mk/\pL i c' (b2 ops o) o.dst k mk ok (Nat.blt (posOf aF k) (posOf aF i))=true/\(fy P o.op=true->eX P ok=true->posOf aF k<posOf aF i->gC c' k=true\/(false=true/\l9 o=true/\l9 ok=true))):=by
    intro i o au;obtain ⟨c',g1,g2,g3⟩:=Pp hZ i o au
    exact ⟨c',g1,g2,fun _ k ok ay _=>by
     obtain ⟨mk,fc,fA,y3⟩:=g3 k ok ay
     exact ⟨mk,fc,fA,fun a b c=>.inl (y3 a b c)⟩⟩
   have main:∀(q:CV),
    (∀es pq N,es.length=N->N<=ops.size->(∀i o,ops[i]? =some o->posOf aF i<N->∃e,es[posOf aF i]? =some e/\(cU P az ops o).run call e.r e.h=.val e.v (cv es pq (posOf aF i+1)))->
      (N<ops.size->∃i0 iG,ops[i0]? =some iG/\posOf aF i0=N/\eX P iG=true)->q.run call es pq=true->∀j o,ops[j]? =some o->looks o.op=true->fy P o.op=false->posOf aF j<N->∃e,es[posOf aF j]? =some e/\∀s ∈ iq P aF 0 ops.toList,
      sX P (fp [] ops.toList) ops.toList aF j (((fp [] ops.toList)[j]?).getD 0) s=true->∃ab,(cU P az ops o).run call e.r (cv es pq s)=.val e.v ab)->
    oJ aB E az (Q .normal) Q (DU ops order aF (gh P az ops (h2 ops order)) q call r h)->(Code.region id ops true).wpIn (cd rd) 0 P Q a w:=by
    intro q tO dh;unfold DU at dh;cases c8:(gh P az ops (h2 ops order)).run call r h with
    | fail=>rw [c8] at dh;exact dh.elim
    | ok es eJ bp=>
      rw [c8] at dh;simp only at dh;cases aq:q.run call es bp with
      | false=>rw [aq] at dh;exact dh.elim
      | true=>
        rw [aq] at dh;simp only [anC] at dh;obtain ⟨ag,av,aJ,bU⟩:=uV c8;have hlen:es.length=ops.size:=by rw [ag,qI,ob]
        have iC:∀i o,ops[i]? =some o->posOf aF i<ops.size->∃e,es[posOf aF i]? =some e/\(cU P az ops o).run call e.r e.h=.val e.v (cv es bp (posOf aF i+1))/\e8 es eJ (posOf aF i+1)=(gn o.dst).run e.r e.v:=
         fun i o a1 _=>bU _ o (oy (iV i (anx.1 a1).1).2 a1)
        have C:Cert P az ops (fun _=>call) es r h eJ bp (iq P aF 0 ops.toList) order aF ops.size ops.size false:=
         ⟨hlen,anD _,anD _,iV,mj,av,aJ,iC,QE,aky,K9,UK _ _,
           fun j o J ad aC bn=>by obtain ⟨e,g1,g2⟩:=tO es bp _ hlen (anD _) (fun i o a1 au=>by obtain ⟨e,da,z2,_⟩:=iC i o a1 au;exact ⟨e,da,z2⟩) (fun h=>by omega) aq j o J ad aC bn;exact ⟨e,g1,fun s aL hm=>by obtain ⟨ab,g3⟩:=g2 s aL hm;exact ⟨_,ab,⟨db,eh⟩,g3⟩⟩,
           fun h=>absurd h (aoT _),fun h=>absurd h (aoT _)⟩
        exact HI dE aM db eh k s C (fun _=>dh) (fun _ _ _ _ _ _ _ h=>absurd h (aoT _)) (fun h=>absurd h (aoT _))
    | c1 es eJ bp v ab=>
      rw [c8] at dh;simp only at dh;cases aq:(KA ops order aF es.length&&q.run call es bp) with
      | false=>rw [aq] at dh;exact dh.elim
      | true=>
        rw [aq] at dh;simp only [anC] at dh;simp only [anu] at aq;obtain ⟨wo,aq⟩:=aq;obtain ⟨av,aJ,bU,iG,cX,ev,hV⟩:=UL c8;have aH:es.length<ops.size:=by have:=(anU.1 cX).1;rw [qI,ob] at this;exact this
        obtain ⟨i0,bT,kz⟩:=mj es.length aH;have cP:ops[i0]? =some ops[i0]:=anQ bT;have qw:=(iV i0 bT).2;rw [kz] at qw;have ac0:iG=ops[i0]:=by have:=oy qw cP;rw [cX] at this;cases this;rfl
        subst ac0;unfold KA at wo;rw [qw] at wo;simp only at wo;obtain ⟨m0,yA,_⟩:=qZ wo i0 ops[i0] (by simp);have Rq:∀k ok,ops[k]? =some ok->∃mk,(fp [] ops.toList)[k]? =some mk/\(es.length<posOf aF k->gC mk i0=true)/\(hq ok=true->posOf aF k<es.length->gC m0 k=true):=by
         intro k ok ay;obtain ⟨mk,da,z2⟩:=qZ wo k ok (by simpa using ay);simp only [an8,anu] at z2;refine ⟨mk,da,fun an=>?_,fun bF aw=>?_⟩
         . have:=z2.1;rw [show Nat.blt es.length (posOf aF k)=true from by rw [aoa];exact an] at this;exact this
         . have:=z2.2;rw [bF,show Nat.blt (posOf aF k) es.length=true from by rw [aoa];exact aw,yA] at this;exact this
        have yq:eX P ops[i0]=true:=by obtain ⟨bW,cu⟩:=SK (P:=P) ev;unfold eX;rw [bW,cu];rfl
        have iC:∀i o,ops[i]? =some o->posOf aF i<es.length->∃e,es[posOf aF i]? =some e/\(cU P az ops o).run call e.r e.h=.val e.v (cv es bp (posOf aF i+1))/\e8 es eJ (posOf aF i+1)=(gn o.dst).run e.r e.v:=
         fun i o a1 aw=>bU _ o aw (oy (iV i (anx.1 a1).1).2 a1)
        have C:Cert P az ops (fun _=>call) es r h eJ bp (iq P aF 0 ops.toList) order aF es.length ops.size false:=
         ⟨rfl,Nat.le_of_lt aH,Nat.le_of_lt aH,iV,mj,av,aJ,iC,QE,by rw [<-kz];exact K9 i0 _ cP yq,K9,UK _ _,
           fun j o J ad aC bn=>by obtain ⟨e,g1,g2⟩:=tO es bp _ rfl (Nat.le_of_lt aH) (fun i o a1 au=>by obtain ⟨e,da,z2,_⟩:=iC i o a1 au;exact ⟨e,da,z2⟩) (fun _=>⟨i0,_,cP,kz,yq⟩) aq j o J ad aC bn;exact ⟨e,g1,fun s aL hm=>by obtain ⟨ab,g3⟩:=g2 s aL hm;exact ⟨_,ab,⟨db,eh⟩,g3⟩⟩,
           fun h=>absurd h (aoT _),fun _ _=>⟨i0,_,m0,cP,kz,ev,yA,fun k ok mk ay an I1=>by
            obtain ⟨mk',da,z2,_⟩:=Rq k ok ay;rw [I1] at da;cases da;exact z2 an,fun k ok ay bF aw=>by
            obtain ⟨mk',da,_,z3⟩:=Rq k ok ay;exact z3 bF aw,v,ab,hV⟩⟩
        refine HI dE aM db eh k s C (fun h=>absurd h (by omega)) (fun ax bw w' x v1 J g1 _ _ g3 g4 g5 g6=>?_) (fun h=>absurd h (aoT _));obtain ⟨i1,dc,da,z2,z3⟩:=g3;have:i1=i0:=C.w5 (anx.1 da).1 bT (by rw [z2,kz]);subst this;rw [cP] at da;cases da;rw [hV] at z3;cases z3;exact dh ax bw w' x g1 g4 g5 g6
   cases aw:sb P ops.toList with
   | false=>
     rw [aw] at ak;have none:∀(l:List Oper),sb P l=false->∀(j:Nat) (o:Oper),l[j]? =some o->fy P o.op=false:=by
      intro l
      induction l with
      | nil=>intro _ j o h;simp at h
      | cons x l bC=>
        intro h j o a1;simp only [sb,apB] at h;cases j with
        | zero=>simp only [anR,ant] at a1;subst a1;exact h.1
        | succ j=>exact bC h.2 j o (by simpa using a1)
     refine main _ (fun es pq N hlen hle iC Rh _ j o a1 eB aq Bn=>?_) ak;have Il:N=ops.size:=by
      rcases aoG N ops.size with aH | kx
      . obtain ⟨i0,iG,da,z2,z3⟩:=Rh aH;have:=none _ aw i0 iG (by simpa using da);unfold eX at z3;rw [this] at z3;cases z3
      . omega
     obtain ⟨e,ct,cy⟩:=iC j o a1 Bn;refine ⟨e,ct,fun s aL _=>?_⟩;have kg:s=ops.size:=by
      rcases uu aL with h | ⟨EN,cp,J,ad,aC⟩
      . simpa using h
      . have:=none _ aw EN cp J;unfold eX at ad;rw [this] at ad;cases ad
     have flat:∀d,d<=ops.size->cv es pq d=cv es pq 0:=by
      intro d
      induction d with
      | zero=>intro _;rfl
      | succ d bC=>
        intro aZ;obtain ⟨i,dd,gR⟩:=mj d (by omega);have cP:ops[i]? =some ops[i]:=anQ dd;obtain ⟨aag,b4,b1⟩:=iC i ops[i] cP (by omega);rw [gR] at b4 b1;have eC:fy P ops[i].op=false:=none _ aw i _ (by simp);rw [(vB eC b1).1,<-bC (by omega)];simp [cv,b4]
     have:e.h=cv es pq s:=by rw [kg,flat ops.size (anD _),<-flat (posOf aF j) (by omega)];simp [cv,ct]
     rw [<-this];exact ⟨_,cy⟩
   | true=>
     rw [aw] at ak;refine main _ (fun es pq N hlen hle iC Rh EC j o a1 eB aq Bn=>?_) ak;obtain ⟨e,ct,_⟩:=iC j o a1 Bn;have:=Ha EC j o (by simpa using a1) eB aq e (by simpa using ct);exact ⟨e,ct,by simpa using this⟩
end
def toExit:en->Exit
 | .normal=>.normal
 | .exit id=>.exit id
 | .ret=>.ret
def VX (C:Ctx):Prop:=
 ∀f p args h v ab,C.KI f=some p->p.run args h=.val v ab->(∃fn,C.P.funcs[f]? =some fn/\fn.body.isSome=true)/\∀(aB:Fr) E w xs,bm E args xs->bd aB E h w->
  Calls C.P f xs.toArray w fun e w'=>∃ax x,e=.returned x/\E.le ax/\Rel ax v x/\bd aB ax ab w'
def VG (C:Ctx):Prop:=
 ∀f p args h v ab,C.ext f=some p->p.run args h=.val v ab->∀(aB:Fr) E w xs,bm E args xs->bd aB E h w->
  ∃ax x w',(callFunc f xs.toArray).run C.P w=.ok (.value x) w'/\E.le ax/\Rel ax v x/\bd aB ax ab w'
def p9 (C:Ctx):Prop:=VX C/\VG C
theorem rh {P:Program} {rd:Option Nat} (m:Machine):m.fenced P (cd rd):=fenced_wide P m
def Gj (rd:Option Nat) (P:Program) (c:Code) (Q:Exit->Act->World->Prop) (a:Act) (w:World):Prop:=
 match c with
 | .loop x=>∀(b:Frame) (k:List Item) (cs:List Frame),b.roundOf=rd->∃e bw w',Q e bw w'/\ArrivesIn (Machine.fenced P (cd rd)) P (lone (b.atR a (.code x::.inLoop x::k)) cs w) b k cs e bw w'
 | c=>c.wpIn (cd rd) 0 P Q a w
theorem Gj.wp {rd:Option Nat} {P:Program} {c:Code} {Q:Exit->Act->World->Prop} {a:Act} {w:World} (h:Gj rd P c Q a w):c.wpIn (cd rd) 0 P Q a w:=by
 cases c with
 | loop x=>
   intro b k cs mM _ _;obtain ⟨e,bw,w',q,r⟩:=h b k cs mM;exact ⟨e,bw,w',q,.of_steps (.one (rh _) stepR_loop) r⟩
 | _=>exact h
def xN (aB:Fr) (E:Env) (az:Nat) (Q:Exit->Act->World->Prop):m'->Prop
 | .ok e r h=>∀ax bw w',E.le ax->fZ ax az r bw->bd aB ax h w'->Q (toExit e) bw w'
 | .c1 v r h=>∀ax bw w' x,E.le ax->fZ ax az r bw->Rel ax v x->bd aB ax h w'->Q (.panic (qK x)) bw w'
 | .fail=>False
theorem xN.up {aB:Fr} {E ax:Env} (h:E.le ax) {az:Nat} {Q:Exit->Act->World->Prop} {x:m'} (k:xN aB E az Q x):xN aB ax az Q x:=by
 cases x with
 | ok e r bp=>exact fun aI a w ad=>k aI a w (h.trans ad)
 | c1 v r bp=>exact fun aI a w x ad=>k aI a w x (h.trans ad)
 | fail=>exact k
def LB (P:Program) (az:Nat) (c:Code) (run:bO->ah->m'):Prop:=
 ∀(rd:Option Nat) (aB:Fr) r h,(rd=none\/noMark c=true)->∀E a w,fZ E az r a->bd aB E h w->∀Q:Exit->Act->World->Prop,xN aB E az Q (run r h)->Gj rd P c Q a w
def tl (P:Program) (ex:iK):Prop:=∀az c,LB P az c (ex az c)
def xb (tmps:Array Value):ResultVar->Sem Value
 | .tmp t=>pure (tmps.getD t undef)
 | .cell b t=>do loadVar t (<-asAddr (tmps.getD b undef))
theorem KU {P:Program} {aB:Fr} {E:Env} {az:Nat} {r:bO} {h:ah} {a:Act} {w:World} (k:RegRel0 E az r a) (s:bd aB E h w):∀{l:List ResultVar} {ai:List V},(lI P az l).run r h=some ai->
 ∃xs,bm E ai xs/\(l.mapM (xb a.tmps)).run P w=.ok xs w
 | [],ai,he=>by simp only [lI,ant] at he;subst he;exact ⟨[],rfl,rfl⟩
 | .tmp t::l,ai,he=>by
   simp only [lI] at he;cases ao:(Nat.ble t top&&Nat.blt t az) with
   | false=>rw [ao] at he;cases he
   | true=>
     rw [ao] at he;simp only [anC] at he;simp only [anu,anS] at ao;cases aK:(lI P az l).run r h with
     | none=>rw [aK] at he;cases he
     | some us=>
       rw [aK] at he;simp only [ant] at he;subst he;obtain ⟨xs,J,ad⟩:=KU k s aK;refine ⟨_::xs,by simp only [bm];exact ⟨_,_,rfl,k.af t ao.1,J⟩,?_⟩;rw [List.mapM_cons,Sem.run_bind];simp only [xb,Sem.run_pure,Result.andThen_ok,Sem.run_bind,ad]
 | .cell b t::l,ai,he=>by
   simp only [lI] at he;cases ao:(Nat.ble b top&&Nat.blt b az) with
   | false=>rw [ao] at he;cases he
   | true=>
     rw [ao] at he;simp only [anC] at he;simp only [anu,anS] at ao;cases bB:(qH P t).run h (T.get .bad (aD b) r) with
     | none=>rw [bB] at he;cases he
     | some v=>
       rw [bB] at he;simp only at he;cases aK:(lI P az l).run r h with
       | none=>rw [aK] at he;cases he
       | some us=>
         rw [aK] at he;simp only [ant] at he;subst he;obtain ⟨xs,J,ad⟩:=KU k s aK;obtain ⟨Y,_,cV,A,dJ,ga⟩:=Sv (P:=P) s (k.af b ao.1) bB;refine ⟨Y::xs,by simp only [bm];exact ⟨_,_,rfl,cV,J⟩,?_⟩;rw [List.mapM_cons,Sem.run_bind];simp only [xb,dJ,asAddr,Sem.run_bind,Sem.run_pure,Result.andThen_ok,ga,ad]
theorem Me:∀(args:List V) (i:Nat) (t:bO) (j:Nat),i+args.length<=top+1->j<=top->
 T.get .bad (aD j) (nS i args t)=if i<=j/\j<i+args.length then (args[j-i]?).getD .bad else T.get .bad (aD j) t
 | [],i,t,j,_,_=>by
   have:¬(i<=j/\j<i):=by omega
   simp [nS,this]
 | v::ai,i,t,j,h,bI=>by
   simp only [anz] at h ⊢;rw [nS,Me ai _ _ _ (by omega) bI];by_cases J:i+1<=j/\j<i+1+ai.length
   . rw [anL J,anL (by omega)];have:j-i=(j - (i+1))+1:=by omega
     rw [this,aov]
   . rw [anE J,T.iN];by_cases ad:j=i
     . subst ad;rw [anL rfl,anL (by omega)];simp
     . rw [anE (fun e=>ad (lE e).symm),anE (by omega)]
theorem ail {E:Env} {ai:List V} {xs:List Value} (h:bm E ai xs) (fn:Func) (a:Act) (P:Program) (w:World)
 (aK:(fn.results.toList.mapM (xb a.tmps)).run P w=.ok xs w):∃x,(results fn a.tmps).run P w=.ok x w/\Rel E (oneOf ai) x:=by
 have nt:(fn.results.mapM (xb a.tmps)).run P w=.ok xs.toArray w:=by rw [Array.mapM_eq_mapM_toList,Sem.run_map,aK];rfl
 have Iz:results fn a.tmps=(do
  let ai <-fn.results.mapM (xb a.tmps)
  pure (if h:ai.size=1 then ai[0] else .tuple ai)):=by
  unfold results
  have:(fun x=>match x with
   | ResultVar.tmp t=>(pure (a.tmps.getD t undef):Sem Value)
   | ResultVar.cell b t=>do loadVar t (<-asAddr (a.tmps.getD b undef)))=xb a.tmps:=by
   funext x;cases x<;>rfl
  rw [<-this];rfl
 have yJ:(results fn a.tmps).run P w=.ok (if h:xs.toArray.size=1 then xs.toArray[0] else .tuple xs.toArray) w:=by rw [Iz,Sem.run_bind,nt];rfl
 refine ⟨_,yJ,?_⟩
 match ai,h with
 | [],h=>
   simp only [bm] at h;subst h;simp only [oneOf,Rel];exact ⟨#[],rfl,rfl⟩
 | [v],h=>
   simp only [bm] at h;obtain ⟨y,cT,rfl,bc,rfl⟩:=h;simpa [oneOf] using bc
 | v::u::ai,h=>
   have aw:=h.length;have eC:¬xs.toArray.size=1:=by simp at aw ⊢;omega
   rw [dif_neg eC];simp only [oneOf,Rel];exact ⟨_,rfl,by simpa using h⟩
section
variable {C:Ctx}
theorem Md:∀(args:List V) (i:Nat) (t:bO),i+args.length<=top+1->T.get .bad fw (nS i args t)=T.get .bad fw t
 | [],_,_,_=>rfl
 | v::ai,i,t,h=>by simp only [anz] at h;simp only [nS];rw [Md ai (i+1) _ (by omega),T.iN,anE (w3 (by omega))]
theorem PC {E:Env} {az:Nat} {args:List V} {xs:List Value} (aw:bm E args xs) (kc:args.length<=az) (gF:az<=top):
 fZ E az (nS 0 args .e) {tmps:=xs.toArray++Array.replicate (az-xs.toArray.size) undef,defers:=[]}:=by
 have hlen:=aw.length;refine ⟨⟨by simp;omega,fun t aE=>?_⟩,?_⟩
 . rw [Me _ _ _ _ (by omega) aE];by_cases aH:t<args.length
   . rw [anL (by omega),apF,anv aH];obtain ⟨y,bc,cV⟩:=aw.get t args[t] (anv aH);simp only [aoZ];have:(xs.toArray++Array.replicate (az-xs.toArray.size) undef).getD t undef=y:=by
      rw [anY,aoV (by simp;omega)];simp [bc]
     rw [this];exact cV
   . rw [anE (by omega)];simp [Rel]
 . rw [Md _ _ _ (by omega)];simp [lP]
def jS (E:Env) (u:Option V) (m:FrameMode):Prop:=
 match u with
 | none=>m=.returning
 | some v=>∃x,Rel E v x/\m=.panicking (qK x)
theorem jS.mono {E ax:Env} (h:E.le ax) {u:Option V} {m:FrameMode} (k:jS E u m):jS ax u m:=by
 cases u with
 | none=>exact k
 | some v=>obtain ⟨x,J,ad⟩:=k;exact ⟨x,Rel.mono h _ _ J,ad⟩
theorem jS.settle {E:Env} {u:Option V} {m:FrameMode} (k:jS E u m):settle m=m:=by
 cases u with
 | none=>simp only [jS] at k;subst k;rfl
 | some v=>obtain ⟨x,J,rfl⟩:=k;rfl
theorem jS.run {E:Env} {u:Option V} {m:FrameMode} (k:jS E u m):m≠.run:=by
 cases u with
 | none=>simp only [jS] at k;subst k;simp
 | some v=>obtain ⟨x,J,rfl⟩:=k;simp
def CY (P:Program) (k8:u'):Prop:=
 ∀f args u h e1 ab,k8 f args u h=.go e1 ab->(∃fn,P.funcs[f]? =some fn/\fn.body.isSome=true)/\
  ∀(aB:Fr) E w xs m,bm E args xs->jS E u m->bd aB E h w->CallsDIn (cd none) 0 P f xs.toArray m w fun e dD w'=>∃ax x,e=.returned x/\E.le ax/\jS ax e1 (settle dD)/\bd aB ax ab w'
theorem bd.gone {aB:Fr} {E:Env} {h:ah} {w w':World} (s:bd aB E h w) {b:aU} {p:jb} (jH:(h.get b).own=true) (ak:E b=some p) (dz:aB.w.heap.size<=p.bh)
 (aH:w.heap.size<=w'.heap.size) (oc:∀j,j≠p.bh->w'.heap[j]? =w.heap[j]?) (pv:w'.os=w.os) (aE:w'.tape=w.tape) (a1:w'.output=w.output):bd aB E (h.set b .dead) w':=
 s.set jH ak dz aH oc pv aE a1 (fun _ _ _ e=>by cases e) trivial
theorem J0 {P:Program} {k8:u'} (aM:fa P) (mE:CY P k8) {aB:Fr} {fn:Func} {tmps:Array Value} {R:Ending->World->Prop}:∀(ai:List V) (ds:List Deferred) (E:Env) (u:Option V) (h:ah) (w:World) (m:FrameMode) (e1:Option V) (ab:ah),
 om k8 ai u h=.go e1 ab->mw E ai ds->jS E u m->bd aB E h w->(∀ax dD w',E.le ax->jS ax e1 dD->bd aB ax ab w'->LeavesInM (cd none) 0 P fn tmps R [] dD w')->LeavesInM (cd none) 0 P fn tmps R ds m w
 | [],ds,E,u,h,w,m,e1,ab,he,aZ,hu,s,cV=>by simp only [om,tq.go.injEq] at he;obtain ⟨rfl,rfl⟩:=he;simp only [mw] at aZ;subst aZ;exact cV E m w (Env.le.refl E) hu s
 | v::ai,ds,E,u,h,w,m,e1,ab,he,aZ,hu,s,cV=>by
   obtain ⟨d,pg,rfl,vW,vX⟩:=aZ;cases v with
   | func f args=>
     simp only [om] at he;cases ao:k8 f args u h with
     | fail=>rw [ao] at he;cases he
     | go ko J=>
       rw [ao] at he;simp only at he;obtain ⟨aA,cap,aE,aw⟩:=vW;obtain ⟨⟨P6,ig,aj⟩,db⟩:=mE _ _ _ _ _ _ ao;refine ⟨hu.run,.inr ⟨fun h=>by simp at h,_,cap,f,d.args++cap,aE,?_,fun _ _=>trivial,?_⟩⟩
       . rw [aE];simp only [invoke];exact s9 aM ig aj _ w
       . have e:d.args++cap=(d.args.toList++cap.toList).toArray:=by apply apg;simp
         rw [e];refine CallsDIn.mono (db aB E w _ m aw hu s) fun e m1 b4 aq=>?_;obtain ⟨aY,x,rfl,ag,av,aJ⟩:=aq;exact J0 aM mE ai pg aY ko J b4 (settle m1) e1 ab he (vX.mono ag) av aJ fun aI m2 b1 ct cy fj=>cV aI m2 b1 (ag.trans ct) cy fj
   | ptr b off=>
     simp only [om] at he;cases an:h.get b<;>rw [an] at he<;>simp only at he<;>try (cases he;done)
     obtain ⟨p,ak,Iy⟩:=vW;have aj:=s.at ak;rw [an] at aj;obtain ⟨p',hQ,dz,bp⟩:=aj;rw [ak] at hQ;cases hQ;have l7:=(anx.1 bp).1
     let b4:World:={w with heap:=w.heap.setIfInBounds p.bh (.deferred none)}
     have rC:(Instr.takeDeferred p.bh).run P w=.ok [] b4:=by
      have fr:(getObj p.bh).run P w=.ok (.deferred (some [])) w:=by simp only [getObj,Sem.run,bp]
      have qA:(setObj p.bh (.deferred none)).run P w=.ok () b4:=by simp only [setObj,Sem.run,bp];rfl
      simp only [Instr.takeDeferred,Sem.run_bind,fr,Result.andThen_ok,qA,Sem.run_pure]
     have s1:bd aB E (h.set b .dead) b4:=s.gone (by rw [an];rfl) ak dz (by simp [b4]) (fun j bI=>by simp only [b4,anT];rw [anE (fun e=>bI e.symm)]) rfl rfl rfl;refine ⟨hu.run,.inl ⟨p.bh,b4,by rw [Iy],rC,?_⟩⟩;exact J0 aM mE ai pg E u _ b4 m e1 ab he vX hu s1 cV
   | _=>simp [om] at he
theorem CH {P:Program} {aB:Fr} {E:Env} {fn:Func} {r:bO} {h:ah} {a:Act} {w:World} (k:RegRel0 E fn.ntmps r a) (s:bd aB E h w) {ai:List V} (bB:(lI P fn.ntmps fn.results.toList).run r h=some ai):
 ∃x,(results fn a.tmps).run P w=.ok x w/\Rel E (oneOf ai) x:=by
 obtain ⟨cT,ct,cy⟩:=KU (P:=P) k s bB;exact ail ct fn a P w cy
section
variable {C:Ctx}
theorem Y0 (ex:iK):hI C.P (sk C ex):=by intro f args h v ab he;trivial
def r' (aB:Fr) (E:Env) (R:Ending->World->Prop):a8->Prop
 | .val v ab=>∀ax x w',E.le ax->Rel ax v x->bd aB ax ab w'->R (.returned x) w'
 | .c1 v ab=>∀ax x w',E.le ax->Rel ax v x->bd aB ax ab w'->R (.panicked (qK x)) w'
 | .fail=>False
theorem r'.up {aB:Fr} {E ax:Env} (h:E.le ax) {R:Ending->World->Prop} {x:a8} (k:r' aB E R x):r' aB ax R x:=by
 cases x with
 | val v bp=>exact fun aI a w ad=>k aI a w (h.trans ad)
 | c1 v bp=>exact fun aI a w ad=>k aI a w (h.trans ad)
 | fail=>exact k
theorem HV (aM:fa C.P) {k8:u'} (mE:CY C.P k8) {aB:Fr} {fn:Func} {E:Env} {r:bO} {u:Option V} {h:ah} {a:Act} {w:World} {m:FrameMode} {R:Ending->World->Prop}
 (k:fZ E fn.ntmps r a) (hu:jS E u m) (s:bd aB E h w)
 (ak:r' aB E R (finish (lI C.P fn.ntmps fn.results.toList) r (om k8 (T.get .bad fw r).list u h))):LeavesInM (cd none) 0 C.P fn a.tmps R a.defers m w:=by
 cases aw:om k8 (T.get .bad fw r).list u h with
 | fail=>rw [aw] at ak;exact ak.elim
 | go e1 ab=>
   rw [aw] at ak;refine J0 aM mE _ a.defers E u h w m e1 ab aw k.defers.list hu s fun ax dD w' ag av aJ=>?_;cases e1 with
   | some v=>
     obtain ⟨x,ar,rfl⟩:=av;exact ak ax x w' ag ar aJ
   | none=>
     simp only [jS] at av;subst av;simp only [finish] at ak;cases bB:(lI C.P fn.ntmps fn.results.toList).run r ab with
     | none=>rw [bB] at ak;exact ak.elim
     | some ai=>
       rw [bB] at ak;obtain ⟨x,ct,cy⟩:=CH (P:=C.P) (k.mono ag).toRegRel0 aJ bB;exact ⟨x,ct,ak ax x w' ag cy aJ⟩
theorem Pc {res:xP} {u e1:Option V} {x:m'} {ab:ah} (he:DS res u x=.go e1 ab):∃e r ai,x=.ok e r ab/\(e=.normal\/e=.ret)/\T.get .bad fw r=.bad/\res.run r ab=some ai/\e1=u:=by
 unfold DS at he;cases x with
 | fail=>cases he
 | c1 _ _ _=>cases he
 | ok e r h=>
   have main:(bif (T.get .bad fw r).JG then (match res.run r h with
    | some _=>tq.go u h
    | none=>.fail) else .fail)=.go e1 ab->(e=.normal\/e=.ret)->∃dL bH ai,m'.ok e r h=.ok dL bH ab/\(dL=.normal\/dL=.ret)/\T.get .bad fw bH=.bad/\res.run bH ab=some ai/\e1=u:=by
    intro he iA;cases aj:(T.get .bad fw r).JG with
    | false=>rw [aj] at he;cases he
    | true=>
      rw [aj] at he;simp only [anC] at he;have ab6:T.get .bad fw r=.bad:=by
       cases an:T.get .bad fw r<;>rw [an] at aj<;>first
        | rfl
        | cases aj
      cases bB:res.run r h with
      | none=>rw [bB] at he;cases he
      | some ai=>
        rw [bB] at he;simp only [tq.go.injEq] at he;obtain ⟨rfl,rfl⟩:=he;exact ⟨e,r,ai,rfl,iA,ab6,bB,rfl⟩
   cases e with
   | normal=>exact main he (.inl rfl)
   | ret=>exact main he (.inr rfl)
   | exit id=>cases he
theorem ajv {c:Code} {s:GU} (h:FR c=some s):∃id dc c0 args types,c=.seq (.region id #[dc,c0] false) s.rest/\dc.dst=some s.d/\dc.op=.call ⟨.builtin .recover,args,types⟩/\dc.guard=none/\c0.dst=some s.e/\c0.op=.assign s.x/\c0.guard=none:=by
 unfold FR at h
 split at h
 case h_2=>cases h
 rename_i id ops rest
 split at h
 case h_2=>cases h
 rename_i dc c0 aw
 split at h
 case h_2=>cases h
 rename_i d args types e x J ad aC bn b0 eo;cases h;have ac4:ops=#[dc,c0]:=by apply apg;simp [aw]
 subst ac4;exact ⟨id,dc,c0,_,_,rfl,J,ad,aC,bn,b0,eo⟩
theorem Z3 (dE:C.P.follows .mixedOrders=true) (aM:fa C.P) {ex:iK} (hex:tl C.P ex):CY C.P (DR C.P ex):=by
 intro f args u h e1 ab he;unfold DR at he;cases aA:C.P.funcs[f]? with
 | none=>rw [aA] at he;cases he
 | some fn=>
   rw [aA] at he;simp only at he;cases aj:fn.body with
   | none=>rw [aj] at he;cases he
   | some c=>
     rw [aj] at he;simp only at he;refine ⟨⟨fn,rfl,by rw [aj];rfl⟩,fun aB E w xs m aw hu s=>?_⟩;cases gF:Nat.ble fn.ntmps top with
     | false=>rw [gF] at he;cases he
     | true=>
       rw [gF] at he;simp only [anC] at he;rw [anS] at gF;unfold Pd at he;cases kc:Nat.ble args.length fn.ntmps with
       | false=>rw [kc] at he;cases he
       | true=>
         rw [kc] at he;simp only [anC] at he;rw [anS] at kc;have k:=PC aw kc gF;cases aK:FR c with
         | none=>
           rw [aK] at he;simp only at he;obtain ⟨e,r,ai,ar,iA,qm,bB,rfl⟩:=Pc he;refine CallsDIn.mono (callsDIn_of_wp (R:=fun e w'=>∃ax x,e=.returned x/\E.le ax/\bd aB ax ab w') aA aj trivial ?_) fun dL dD w' aq=>?_
           . refine (hex fn.ntmps c none aB _ h (.inl rfl) E _ w k s _ ?_).wp;rw [ar];intro ax bw w' ag av aJ;have aZ:bw.defers=[]:=by have:=av.defers;rw [qm] at this;exact this
             obtain ⟨x,ct,cy⟩:=CH (P:=C.P) av.toRegRel0 aJ bB;rcases iA with rfl | rfl<;>exact ⟨aZ,x,ct,ax,x,rfl,ag,aJ⟩
           . obtain ⟨rfl,ax,x,rfl,ag,aJ⟩:=aq;exact ⟨ax,x,rfl,ag,by rw [hu.settle];exact hu.mono ag,aJ⟩
         | some df=>
           rw [aK] at he;simp only at he;cases hZ:(fO fn.ntmps (some df.d)&&fO fn.ntmps (some df.e)) with
           | false=>rw [hZ] at he;cases he
           | true=>
             rw [hZ] at he;simp only [anC] at he;simp only [anu] at hZ;obtain ⟨e,r,ai,ar,iA,qm,bB,rfl⟩:=Pc he;obtain ⟨id,dc,c0,TU,rt,rfl,g1,g2,g3,g4,g5,g6⟩:=ajv aK;refine callsDIn_of_wpSIn aA aj trivial fun vA cs Ix=>wpSIn_seq (wpSIn_region ?_)
             obtain ⟨X,dO,x0,hc,dD,n',adm⟩:∃X,Rel E (u.getD .nilIface) X/\∃x0,(match recoverD (vA::cs) with
              | some (v,ZL)=>v=X/\ZL=x0
              | none=>X=.nilIface/\x0=vA::cs)/\∃dD,x0={vA with mode:=dD}::cs/\settle dD=.returning:=by
              cases u with
              | none=>
                simp only [jS] at hu;subst hu;refine ⟨.nilIface,rfl,vA::cs,?_,.returning,?_,rfl⟩
                . simp only [recoverD,Ix];exact ⟨trivial,trivial⟩
                . rw [<-Ix]
              | some v=>
                obtain ⟨x,ar,rfl⟩:=hu;refine ⟨x,ar,{vA with mode:=.panicking [{v:=x,recovered:=true}]}::cs,?_,.panicking [{v:=x,recovered:=true}],rfl,rfl⟩;simp only [recoverD,Ix];exact ⟨trivial,trivial⟩
             have bX:=k.put hZ.1 dO;have b_:=bX.put hZ.2 (eb bX.toRegRel0 df.x);rw [<-g1] at b_;rw [<-g4] at b_
             have yK:=(hex fn.ntmps df.rest none aB _ h (.inl rfl) E _ w b_ s (fun dL bw w'=>bodyPostS C.P fn vA cs (fun e dD w'=>∃ax x,e=.returned x/\E.le ax/\jS ax none (settle dD)/\bd aB ax ab w') dL bw x0 w') (by
              have:T4 df u (nS 0 args .e)=(gn c0.dst).run ((gn dc.dst).run (nS 0 args .e) (u.getD .nilIface)) ((bZ df.x).run ((gn dc.dst).run (nS 0 args .e) (u.getD .nilIface))):=by rw [g1,g4];rfl
              rw [<-this,ar];intro ax bw w' ag av aJ;have aZ:bw.defers=[]:=by have:=av.defers;rw [qm] at this;exact this
              obtain ⟨x,ct,cy⟩:=CH (P:=C.P) av.toRegRel0 aJ bB
              rcases iA with rfl | rfl<;>exact ⟨aZ,dD,n',x,ct,ax,x,rfl,ag,adm,aJ⟩)).wp
             have Rn:=wpSIn_of_wpIn (F:=cd none) rfl yK;have qB:∀y,Region.wanted dc y=true:=fun y=>by simp [Region.wanted,g3]
             have tY:∀y,Region.wanted c0 y=true:=fun y=>by simp [Region.wanted,g6]
             have adk:∀(ρ:Operand->Value),(execOp ρ dc).run C.P w=.ok .recover w:=fun ρ=>by obtain ⟨dst,op,type,pos,after,guard⟩:=dc;simp only at g2;subst g2;rfl
             have BA:∀(ρ:Operand->Value),(execOp ρ c0).run C.P w=.ok (.value (ρ df.x)) w:=fun ρ=>by obtain ⟨dst,op,type,pos,after,guard⟩:=c0;simp only at g5;subst g5;rfl
             have cx:(#[dc,c0]:Array Oper).size=2:=rfl;rw [cx];simp only [List.range_succ,List.range_zero,anP,anO,wpOpsSIn];have dI:(#[dc,c0]:Array Oper)[0]? =some dc:=rfl;have al:(#[dc,c0]:Array Oper)[1]? =some c0:=rfl;rw [dI];simp only [qB,an7,adk];refine ⟨fun _ _=>trivial,?_⟩;cases Rb:recoverD (vA::cs) with
             | none=>
               rw [Rb] at hc;obtain ⟨abX,ql⟩:=hc;subst abX ql;simp only [al,tY,an7,BA];exact ⟨fun _ _=>trivial,Rn⟩
             | some Lk=>
               obtain ⟨v,al9⟩:=Lk;rw [Rb] at hc;obtain ⟨rfl,rfl⟩:=hc;simp only [al,tY,an7,BA];exact ⟨fun _ _=>trivial,Rn⟩
end
end
theorem UI:∀(xs:List V) (x:V),F' (xs++[x])=some (xs,x)
 | [],x=>rfl
 | [y],x=>rfl
 | y::z::xs,x=>by have:=UI (z::xs) x;simp only [anO] at this ⊢;simp only [F',this]
theorem RegRel0.putAt {E:Env} {az:Nat} {r:bO} {t:Array Value} {ds:List Deferred} (k:RegRel0 E az r ⟨t,ds⟩) {d:Nat} (aZ:d<az) (aE:d<=top) {v:V} {x:Value} (bB:Rel E v x):
 RegRel0 E az (T.put .bad v (aD d) r) ⟨t.setIfInBounds d x,ds⟩:=by
 refine ⟨by simp only [Array.size_setIfInBounds];exact k.size,fun j bI=>?_⟩;rw [T.iN];have cx:=k.size;simp only at cx;by_cases h:d=j
 . subst h;rw [anL rfl];simp [anY,cx,aZ,bB]
 . rw [anE (fun e=>h (lE e))];have:=k.af j bI;simpa [anY,anT,h] using this
theorem TN {E:Env} {az:Nat} {ds:List Deferred}:∀(bE:List Nat) (ai:List V) (xs:List Value) (r:bO) (t:Array Value),uL az bE=true->bm E ai xs->RegRel0 E az r ⟨t,ds⟩->
 RegRel0 E az (w8 bE ai r) ⟨(bE.zip xs).foldl (fun t (p:Nat × Value)=>t.setIfInBounds p.1 p.2) t,ds⟩
 | [],ai,xs,r,t,_,_,k=>by cases ai<;>exact k
 | p::bE,[],xs,r,t,_,aw,k=>by simp only [bm] at aw;subst aw;exact k
 | p::bE,v::ai,xs,r,t,ak,aw,k=>by obtain ⟨y,cT,rfl,bc,aw⟩:=aw;simp only [uL,aoy,anu,aoa,anS] at ak;simp only [w8,List.zip_cons_cons,List.foldl_cons];exact TN bE ai cT _ _ ak.2 aw (k.putAt ak.1.1 ak.1.2 bc)
theorem aja {E:Env} {az:Nat} {ds:List Deferred} {bE:Array Nat} {ai:List V} {xs:List Value} {r:bO} {t:Array Value} (ak:uL az bE.toList=true) (aw:bm E ai xs) (k:RegRel0 E az r ⟨t,ds⟩):
 RegRel0 E az (w8 bE.toList ai r) ⟨(bE.zip xs.toArray).foldl (fun t (p:Nat × Value)=>t.setIfInBounds p.1 p.2) t,ds⟩:=by
 rw [<-Array.foldl_toList,Array.toList_zip];exact TN bE.toList ai xs r t ak aw k
theorem RegRel0.WQ {E:Env} {az:Nat} {r:bO} {a:Act} (k:RegRel0 E az r a) (v:V):RegRel0 E az (T.put .bad v fw r) a:=
 ⟨k.size,fun t aE=>by rw [T.iN,anE (fun e=>w3 aE e.symm)];exact k.af t aE⟩
section
variable {C:Ctx}
theorem aaV (aM:fa C.P) (dE:C.P.follows .mixedOrders=true) {ex:iK} (hex:tl C.P ex) {f:FuncId} {args:List V} {h:ah} {aB:Fr} {E:Env} {w:World} {xs:List Value} (aw:bm E args xs) (s:bd aB E h w) {R:Ending->World->Prop}
 (ak:r' aB E R ((HX C.P f).run ex args h)):(∃fn,C.P.funcs[f]? =some fn/\fn.body.isSome=true)/\Calls C.P f xs.toArray w R:=by
 unfold HX at ak;cases aA:C.P.funcs[f]? with
 | none=>rw [aA] at ak;exact ak.elim
 | some fn=>
   rw [aA] at ak;simp only at ak;cases aj:fn.body with
   | none=>rw [aj] at ak;exact ak.elim
   | some c=>
     rw [aj] at ak;simp only at ak;refine ⟨⟨fn,rfl,by rw [aj];rfl⟩,?_⟩;cases gF:Nat.ble fn.ntmps top with
     | false=>rw [gF] at ak;exact ak.elim
     | true=>
       rw [gF] at ak;simp only [anC] at ak;rw [anS] at gF;unfold P7 at ak;cases kc:Nat.ble args.length fn.ntmps with
       | false=>rw [kc] at ak;exact ak.elim
       | true=>
         rw [kc] at ak;simp only [anC] at ak;rw [anS] at kc;have k:=PC aw kc gF;have mE:=Z3 (C:=C) dE aM hex;refine sl.1 (callsIn_of_wp_marks (F:=cd none) (n:=0) aA aj trivial ?_);refine (hex fn.ntmps c none aB _ h (.inl rfl) E _ w k s _ ?_).wp;cases aK:ex fn.ntmps c (nS 0 args .e) h with
         | fail=>rw [aK] at ak;exact ak
         | c1 v r J=>
           rw [aK] at ak;intro ax bw w' x ag av aJ bU;exact HV (u:=some v) aM mE av ⟨x,aJ,rfl⟩ bU (r'.up ag ak)
         | ok e r J=>
           rw [aK] at ak;intro ax bw w' ag av aJ;have main:r' aB E R (finish (lI C.P fn.ntmps fn.results.toList) r (om (DR C.P ex) (T.get .bad fw r).list none J))->LeavesInM (cd none) 0 C.P fn bw.tmps R bw.defers .returning w':=by intro ak;exact HV (u:=none) aM mE av rfl aJ (r'.up ag ak)
           cases e with
           | normal=>exact main ak
           | ret=>exact main ak
           | exit id=>exact ak.elim
theorem D9 (aM:fa C.P) (dE:C.P.follows .mixedOrders=true) (hC:p9 C) {ex:iK} (hex:tl C.P ex) {f:FuncId} {args:List V} {h:ah} {aB:Fr} {E:Env} {w:World} {xs:List Value} (aw:bm E args xs) (s:bd aB E h w) {R:Ending->World->Prop}
 (ak:r' aB E R ((yc C f).run ex args h)):(∃fn,C.P.funcs[f]? =some fn/\fn.body.isSome=true)/\Calls C.P f xs.toArray w R:=by
 unfold yc at ak;cases aq:C.KI f with
 | none=>rw [aq] at ak;exact aaV aM dE hex aw s ak
 | some p=>
   rw [aq] at ak;simp only at ak;cases aK:p.run args h with
   | fail=>rw [aK] at ak;exact ak.elim
   | c1 _ _=>rw [aK] at ak;exact ak.elim
   | val v ab=>
     rw [aK] at ak;obtain ⟨J,ad⟩:=hC.1 f p args h v ab aq aK;refine ⟨J,(ad aB E w xs aw s).mono fun e w' aq=>?_⟩;obtain ⟨ax,x,rfl,ag,av,aJ⟩:=aq;exact ak ax x w' ag av aJ
theorem bd.loop {P:Program} {aB:Fr} {E:Env} {h:ah} {w:World} (s:bd aB E h w) {b:aU} {l gm:Al} {p:jb} {o cp:Loop} (an:h.get b=.gx l) (ak:E b=some p) (dz:aB.w.heap.size<=p.bh) (bp:w.heap[p.bh]? =some (.loop o)) (aK:vl E gm cp):
 (setObj p.bh (.loop cp)).run P w=.ok () {w with heap:=w.heap.setIfInBounds p.bh (.loop cp)}/\bd aB E (h.set b (.gx gm)) {w with heap:=w.heap.setIfInBounds p.bh (.loop cp)}:=by
 have l7:=(anx.1 bp).1;refine ⟨by simp only [setObj,Sem.run,bp],s.set (p:=p) (by rw [an];rfl) ak dz (by simp) (fun j bI=>?_) rfl rfl rfl (fun _ _ _ e=>by cases e) ?_⟩
 . simp only [anT];rw [anE (fun e=>bI e.symm)]
 . exact ⟨p,cp,ak,dz,by simp [l7],aK⟩
theorem run_getLoop {P:Program} {r:Nat} {w:World} {o:Loop} (bp:w.heap[r]? =some (.loop o)):(Instr.getLoop r).run P w=.ok o w:=by
 have:(getObj r).run P w=.ok (.loop o) w:=by simp only [getObj,Sem.run,bp]
 simp only [Instr.getLoop,Sem.run_bind,this,Result.andThen_ok,Sem.run_pure]
theorem ajQ {aB:Fr} {E:Env} {h ab:ah} {w:World} {b:aU} {p:jb} {e:en} {v:V} {P:Program} {R:Ending->World->Prop} {a:Act} (s:bd aB E h w) (ak:E b=some p) (he:CJ b e h=.val v ab)
 (cV:∀x w',Rel E v x->bd aB E ab w'->R (.returned x) w'):roundPost P p.bh R (toExit e) a w:=by
 unfold CJ at he;have aj:=s.at ak;cases an:h.get b<;>rw [an] at he aj<;>simp only at he<;>try (cases he;done)
 rename_i l;obtain ⟨p',o,hQ,dz,bp,aK⟩:=aj;rw [ak] at hQ;cases hQ;have sx:=run_getLoop (P:=P) bp;obtain ⟨bM,dw,bY,dR,cW,fY,hx,dS⟩:=aK;cases e with
 | normal=>
   simp only [a8.val.injEq] at he;obtain ⟨rfl,rfl⟩:=he;obtain ⟨J,ad⟩:=s.loop (P:=P) (gm:=⟨0,none,l.d,l.az,l.r,l.bE,l.assign,l.body⟩) (cp:={o with state:=.ready,pending:=none}) an ak dz bp ⟨rfl,rfl,bY,dR,cW,fY,hx,dS⟩;refine ⟨.bool true,_,?_,cV _ _ rfl ad⟩;simp only [Instr.endRound,Sem.run_bind,sx,Result.andThen_ok,Option.isNone_none,an7,J,Sem.run_pure]
 | ret=>
   simp only [a8.val.injEq] at he;obtain ⟨rfl,rfl⟩:=he;obtain ⟨J,ad⟩:=s.loop (P:=P) (gm:=⟨2,some .ret,l.d,l.az,l.r,l.bE,l.assign,l.body⟩) (cp:={o with state:=.done,pending:=some .ret}) an ak dz bp ⟨rfl,rfl,bY,dR,cW,fY,hx,dS⟩;refine ⟨.bool false,_,?_,cV _ _ rfl ad⟩;simp only [Instr.endRound,Sem.run_bind,sx,Result.andThen_ok,Option.isNone_some,anV,an4,J,Sem.run_pure]
 | exit id=>
   simp only [a8.val.injEq] at he;obtain ⟨rfl,rfl⟩:=he;obtain ⟨J,ad⟩:=s.loop (P:=P) (gm:=⟨2,some (.exit id),l.d,l.az,l.r,l.bE,l.assign,l.body⟩) (cp:={o with state:=.done,pending:=some (.exit id)}) an ak dz bp ⟨rfl,rfl,bY,dR,cW,fY,hx,dS⟩;refine ⟨.bool false,_,?_,cV _ _ rfl ad⟩;simp only [Instr.endRound,Sem.run_bind,sx,Result.andThen_ok,Option.isNone_some,anV,an4,J,Sem.run_pure]
theorem ajR {P:Program} {ex:iK} (hex:tl P ex) {aB:Fr} {E:Env} {h ab:ah} {w:World} {args:List V} {xs:List Value} {b:aU} {p:jb} {v:V} (he:CI ex args b h=.val v ab) (aw:bm E args xs) (s:bd aB E h w) (ak:E b=some p):
 ∃f tmps assign body,(Instr.yield p.bh xs.toArray).run P w=.ok (.round p.bh f tmps assign body) w/\
  RoundIn (cd none) 0 P p.bh f tmps assign body w fun e w'=>∃ax x,e=.returned x/\E.le ax/\Rel ax v x/\bd aB ax ab w':=by
 unfold CI at he;have aj:=s.at ak;cases an:h.get b<;>rw [an] at he aj<;>simp only at he<;>try (cases he;done)
 rename_i l;obtain ⟨p',o,hQ,dz,bp,aK⟩:=aj;rw [ak] at hQ;cases hQ;obtain ⟨bM,dw,bY,dR,cW,fY,hx,dS⟩:=aK;obtain ⟨ao,he⟩:=jV he;simp only [anu,an6] at ao;obtain ⟨bW,cu,c3,hM⟩:=ao;have hlen:=aw.length;have Q8:o.params.size=xs.length:=by rw [<-Array.length_toList,bY,hlen,bW]
 refine ⟨o.fn,(o.params.zip xs.toArray).foldl (fun tmps (t,a)=>tmps.setIfInBounds t a) o.tmps,o.assign,o.body,?_,?_⟩
 . simp only [Instr.yield,Sem.run_bind,run_getLoop bp,Result.andThen_ok];rw [anE (by simp [Q8])];rfl
 . rw [dR,cW];refine roundIn_of_wpIn (F:=cd none) trivial ?_;have cC:RegRel0 E l.az l.r ⟨o.tmps,[]⟩:=⟨fY,hx⟩;rw [<-bY] at cu he;have bX:=(aja cu aw cC).WQ .bad;have k:fZ E l.az (T.put .bad .bad fw (w8 o.params.toList args l.r)) ⟨(o.params.zip xs.toArray).foldl (fun t (p:Nat × Value)=>t.setIfInBounds p.1 p.2) o.tmps,[]⟩:=⟨bX,by rw [T.iN,anL rfl];simp [lP]⟩
   have adE:=hex l.az l.assign (some p.bh) aB _ h (.inr c3) E _ w k s (Exit.then (fun vq xp=>∃Vq,(Instr.beginRound p.bh).run P xp=.ok () Vq/\
    l.body.wpIn (cd (some p.bh)) 0 P (roundPost P p.bh fun e w'=>∃ax x,e=.returned x/\E.le ax/\Rel ax v x/\bd aB ax ab w') vq Vq) (fun _ _ _=>False))
   refine (adE ?_).wp;cases ar:ex l.az l.assign (T.put .bad .bad fw (w8 o.params.toList args l.r)) h with
   | fail=>rw [ar] at he;cases he
   | c1 _ _ _=>rw [ar] at he;cases he
   | ok e ajg J=>
     rw [ar] at he;cases e<;>simp only at he<;>try (cases he;done)
     intro aY bP b4 ag av aJ;unfold FY at he;have lo:=ag _ _ ak;have lb:=aJ.at lo;cases QF:J.get b<;>rw [QF] at he lb<;>simp only at he<;>try (cases he;done)
     rename_i gH;obtain ⟨ct,dc,Q5,vO,v_,wy⟩:=lb;rw [lo] at Q5;cases Q5;obtain ⟨c8,he⟩:=jV he;rw [an6] at c8;obtain ⟨t1,t2,t3,t4,t5,t6,t7,t8⟩:=wy;obtain ⟨g1,g2⟩:=aJ.loop (P:=P) (gm:=⟨1,gH.h3,gH.d,gH.az,gH.r,gH.bE,gH.assign,gH.body⟩) (cp:={dc with state:=.busy}) QF lo vO v_ ⟨rfl,t2,t3,t4,t5,t6,t7,t8⟩;refine ⟨{b4 with heap:=b4.heap.setIfInBounds p.bh (.loop {dc with state:=.busy})},?_,?_⟩
     . have Jc:dc.state=.ready:=by rw [t1,c8];rfl
       simp only [Instr.beginRound,Sem.run_bind,run_getLoop v_,Result.andThen_ok,g1,Jc,Sem.run_pure]
     . refine (hex l.az l.body (some p.bh) aB _ _ (.inr hM) aY _ _ av g2 _ ?_).wp;cases fP:ex l.az l.body ajg (J.set b (.gx ⟨1,gH.h3,gH.d,gH.az,gH.r,gH.bE,gH.assign,gH.body⟩)) with
       | fail=>rw [fP] at he;cases he
       | c1 _ _ _=>rw [fP] at he;cases he
       | ok aN am5 ad=>
         rw [fP] at he;simp only at he;intro aI a2 b1 da z2 z3;exact ajQ z3 (da _ _ lo) he fun x w' fc fA=>⟨aI,x,rfl,ag.trans da,fc,fA⟩
theorem Y1 (dE:C.P.follows .mixedOrders=true) (aM:fa C.P) (hC:p9 C) {ex:iK} (hex:tl C.P ex):hA C.P (sk C ex) where
 fn:=by
  intro aB f args h v ab aA he E w xs aw s;unfold sk at he;rw [h_,anE aA] at he;cases ar:C.ext f with
  | some p=>
    rw [ar] at he;simp only at he;cases aK:p.run args h with
    | fail=>rw [aK] at he;cases he
    | c1 _ _=>rw [aK] at he;cases he
    | val v1 J=>
      rw [aK] at he;simp only [a8.Kk,a8.val.injEq] at he;obtain ⟨rfl,rfl⟩:=he;exact .inr (hC.2 f p args h _ _ ar aK aB E w xs aw s)
  | none=>
  rw [ar] at he;simp only at he;exact .inl (D9 aM dE hC hex aw s (by rw [he];exact fun ax x w' ag av aJ=>⟨ax,x,rfl,ag,av,aJ⟩))
 c1:=by
  intro aB f args h v ab aA he E w xs aw s;unfold sk at he;rw [h_,anE aA] at he;cases ar:C.ext f with
  | some p=>
    rw [ar] at he;simp only at he;cases aK:p.run args h<;>rw [aK] at he<;>cases he
  | none=>
  rw [ar] at he;simp only at he;exact D9 aM dE hC hex aw s (by rw [he];exact fun ax x w' ag av aJ=>⟨ax,x,rfl,ag,av,aJ⟩)
 Vv:=by intro aB args b h v ab he E w xs p aw s ak;unfold sk at he;rw [h_,anL rfl] at he;unfold K3 at he;rw [UI] at he;exact ajR hex he aw s ak
 zV:=by
  intro args h v ab he;unfold sk at he;rw [h_,anL rfl] at he;have al:∀b e h,CJ b e h≠.c1 v ab:=by
   intro b e h he;unfold CJ at he
   split at he
   . cases e<;>cases he
   . cases he
  have aN:∀az c b r h,FY ex az c b r h≠.c1 v ab:=by
   intro az c b r h he;unfold FY at he
   split at he
   case h_2=>cases he
   rename_i l aw;cases ao:Nat.beq l.st 0 with
   | false=>rw [ao] at he;cases he
   | true=>
     rw [ao] at he;simp only [anC] at he
     split at he
     . exact al _ _ _ he
     . cases he
  have cj:∀xs b h,CI ex xs b h≠.c1 v ab:=by
   intro xs b h he;unfold CI at he
   split at he
   case h_2=>cases he
   rename_i l aw;cases ao:(Nat.beq xs.length l.bE.length&&(uL l.az l.bE&&(noMark l.assign&&noMark l.body))) with
   | false=>rw [ao] at he;cases he
   | true=>
     rw [ao] at he;simp only [anC] at he
     split at he
     case h_2=>cases he
     rename_i e r J _;cases e<;>simp only at he<;>try (cases he;done)
     exact aN _ _ _ _ _ he
  unfold K3 at he
  split at he
  case h_2=>cases he
  split at he
  case h_2=>cases he
  exact cj _ _ _ he
end
section
variable {C:Ctx}
theorem aaz {P:Program} {e:en} {Q:Exit->Act->World->Prop} {a:Act} {w:World} (h:Q (toExit e) a w):(HT e).wpIn (cd none) 0 P Q a w:=by
 cases e with
 | normal=>exact wpIn_skip h
 | exit id=>exact wpIn_exit h
 | ret=>exact wpIn_ret h
theorem ajo (dE:C.P.follows .mixedOrders=true) (aM:fa C.P) (hC:p9 C) {ex:iK} (hex:tl C.P ex) {f:Operand} {bE:Array Tmp} {assign body:Code} {az:Nat} {aB:Fr} {E:Env} {r:bO} {h:ah} {a:Act} {w:World} {Q:Exit->Act->World->Prop}
 (k:fZ E az r a) (s:bd aB E h w) (ak:xN aB E az Q (KP (fun g args h=>(yc C g).run ex args h) (bZ f) bE.toList az assign body r h)):(Code.rangeFunc f bE assign body).wpIn (cd none) 0 C.P Q a w:=by
 unfold KP at ak;have aA:=eb k.toRegRel0 f;generalize (bZ f).run r=xl at ak aA;cases xl<;>simp only at ak<;>try (exact ak.elim)
 rename_i g cs;rw [h_] at ak;by_cases an:g=dy
 . rw [anL an] at ak;exact ak.elim
 . rw [anE an] at ak;simp only [Rel] at aA;rcases aA with ⟨_,fe,dO,aw⟩ | ⟨IK,_⟩
   case inr=>exact absurd IK an
   refine wpIn_rangeFunc fun fn _=>?_;have f0:=s.fresh h.next (anD _)
   obtain ⟨aY,vP⟩:∃aY,aY=E.put (aD h.next) ⟨w.heap.size,0,0⟩:=⟨_,rfl⟩;obtain ⟨b4,qB⟩:∃b4:World,b4={w with heap:=w.heap.push (.deferred (some []))}:=⟨_,rfl⟩;have Bx:aY (aD h.next)=some ⟨w.heap.size,0,0⟩:=by rw [vP];unfold Env.put;rw [anL rfl]
   have s1:bd aB aY (h.new .gp) b4:=by rw [vP,qB];refine s.alloc 0 ⟨⟨w.heap.size,0,0⟩,by unfold Env.put;rw [anL rfl],s.frame.size,by simp⟩
   have pD:E.le aY:=by rw [vP];exact Env.nE f0
   have wC:b4.heap.size=w.heap.size+1:=by rw [qB];simp
   obtain ⟨o,a1⟩:∃o:Loop,o={state:=.ready,pending:=none,fn,tmps:=a.tmps,params:=bE,assign,body,defers:=w.heap.size}:=⟨_,rfl⟩;obtain ⟨aI,sr⟩:∃aI,aI=aY.put (aD (h.next+1)) ⟨b4.heap.size,0,0⟩:=⟨_,rfl⟩;obtain ⟨b1,tY⟩:∃b1:World,b1={b4 with heap:=b4.heap.push (.loop o)}:=⟨_,rfl⟩;have f1:aY (aD (h.next+1))=none:=s1.fresh (h.next+1) (anD _);have mP:aY.le aI:=by rw [sr];exact Env.nE f1
   have By:aI (aD (h.next+1))=some ⟨b4.heap.size,0,0⟩:=by rw [sr];unfold Env.put;rw [anL rfl]
   have gx:vl aI ⟨0,none,aD h.next,az,r,bE.toList,assign,body⟩ o:=by subst a1;exact ⟨rfl,rfl,rfl,rfl,rfl,k.size,fun t aE=>Rel.mono (pD.trans mP) _ _ (k.af t aE),_,mP _ _ Bx,rfl⟩
   have s2:bd aB aI ((h.new .gp).new (.gx ⟨0,none,aD h.next,az,r,bE.toList,assign,body⟩)) b1:=by rw [sr,tY];refine s1.alloc 0 ⟨⟨b4.heap.size,0,0⟩,o,by show aY.put (aD (h.next+1)) _ (aD (h.next+1))=_;unfold Env.put;rw [anL rfl],by show aB.w.heap.size<=b4.heap.size;rw [wC];have:=s.frame.size;omega,by simp,?_⟩;have:=gx;rw [sr] at this;exact this
   obtain ⟨iE,qt⟩:∃iE,iE=b4.heap.size:=⟨_,rfl⟩;have bc:Rel aI (.func dy [.ptr (aD (h.next+1)) 0]) (.func (.yield iE) #[] #[]):=by simp only [Rel];exact .inr ⟨trivial,_,_,rfl,By,by rw [qt]⟩
   have qk:bm aI (.func dy [.ptr (aD (h.next+1)) 0]::cs) (.func (.yield iE) #[] #[]::fe.toList):=by simp only [bm];exact ⟨_,_,rfl,bc,bm.mono (pD.trans mP) _ _ aw⟩
   have db:=D9 (C:=C) aM dE hC hex (f:=g) qk s2 (R:=rangePost (cd none) 0 C.P iE Q {a with defers:=[{target:=.collected w.heap.size,args:=#[]}]++a.defers});cases aK:(yc C g).run ex (.func dy [.ptr (aD (h.next+1)) 0]::cs) ((h.new .gp).new (.gx ⟨0,none,aD h.next,az,r,bE.toList,assign,body⟩)) with
   | fail=>rw [aK] at ak;exact ak.elim
   | c1 _ _=>rw [aK] at ak;exact ak.elim
   | val v ab=>
     rw [aK] at ak db;simp only at ak;obtain ⟨⟨P6,ig,aj⟩,ao⟩:=db (by
      intro ax x w' ag av aJ;simp only [rangePost];unfold TV at ak;have kA:=ag _ _ By;have aj:=aJ.at kA;cases sx:ab.get (aD (h.next+1))<;>rw [sx] at ak aj<;>simp only at ak<;>try (exact ak.elim)
      rename_i l;obtain ⟨p',cp,hQ,dz,bp,IW⟩:=aj;rw [kA] at hQ;cases hQ;obtain ⟨t1,t2,t3,t4,t5,t6,t7,t8⟩:=IW;rw [h_] at ak;by_cases c8:l.st=1
      . rw [anL c8] at ak;exact ak.elim
      . rw [anE c8] at ak;simp only at bp;rw [<-qt] at bp;have I2:(cp.state == LoopState.busy)=false:=by
         rw [t1]
         match l3:l.st with
         | 0=>rfl
         | 1=>exact absurd l3 c8
         | n+2=>rfl
        have l7:=(anx.1 bp).1
        let iZ:World:={w' with heap:=w'.heap.setIfInBounds iE (.loop {cp with state:=.exhausted})}
        have gE:(Instr.endLoop iE).run C.P w'=.ok cp.pending iZ:=by
         have qA:(setObj iE (.loop {cp with state:=.exhausted})).run C.P w'=.ok () iZ:=by simp only [setObj,Sem.run,bp];rfl
         simp only [Instr.endLoop,Sem.run_bind,run_getLoop bp,Result.andThen_ok,I2,anV,an4,qA,Sem.run_pure]
        have zB:bd aB ax (ab.set (aD (h.next+1)) .dead) iZ:=by refine aJ.gone (p:=⟨b4.heap.size,0,0⟩) (by rw [sx];rfl) kA dz (by simp [iZ]) (fun j bI=>?_) rfl rfl rfl;simp only at bI;simp only [iZ,anT];rw [anE (fun e=>bI (by rw [<-e,qt]))]
        have eQ:fZ ax az (T.put .bad (.tuple (.ptr (aD h.next) 0::(T.get .bad fw r).list)) fw r) {a with defers:=[{target:=.collected w.heap.size,args:=#[]}]++a.defers}:=by
         refine ⟨⟨k.size,fun t aE=>?_⟩,?_⟩
         . rw [T.iN,anE (fun e=>w3 aE e.symm)];exact Rel.mono (pD.trans (mP.trans ag)) _ _ (k.af t aE)
         . rw [T.iN,anL rfl];simp only [lP,mw,anO,anP];exact ⟨_,_,rfl,⟨_,ag _ _ (mP _ _ Bx),rfl⟩,(k.defers.mono (pD.trans (mP.trans ag))).list⟩
        refine ⟨cp.pending,iZ,gE,?_⟩;rw [t2];cases lp:l.h3 with
        | none=>
          rw [lp] at ak;exact ak ax _ iZ (pD.trans (mP.trans ag)) eQ zB
        | some e=>
          rw [lp] at ak;exact aaz (ak ax _ iZ (pD.trans (mP.trans ag)) eQ zB))
     refine ⟨iE,[{target:=.collected w.heap.size,args:=#[]}],b1,{target:=.fn (.func g) fe,args:=#[]++#[.func (.yield iE) #[] #[]]},b1,g,_,b1,?_,?_,fun _ _=>trivial,?_,fun h=>by simp at h,sl.2 ao⟩
     . subst a1 tY qB;have he:=run_enterLoop_outer (P:=C.P) (w:=w) fn a.tmps bE assign body;rw [World.alloc,World.alloc] at he;simp only [Array.size_push] at qt ⊢;rw [qt];exact he
     . simp only [resolve,dO,Deferred.ofValue,Sem.run_pure];simp [Act.eval]
     . simp only [invoke];have e:(#[]++#[Value.func (.yield iE) #[] #[]]:Array Value)++fe=(Value.func (.yield iE) #[] #[]::fe.toList).toArray:=by apply apg;simp
       rw [e];exact s9 aM ig aj _ b1
theorem zH {P:Program} {b:Frame} {a:Act} {k:List Item} {cs:List Frame} {w:World} {c:Code}:
 step P (lone (b.atR a (.code (.scope c)::k)) cs w)=.next (lone (b.atR a (.code c::.inScope c::k)) cs w):=
 step_lone_go (by simp [stepG,stepG.exec,Frame.atR])
theorem akz {P:Program} {b:Frame} {a:Act} {k:List Item} {cs:List Frame} {w:World} {c:Code}:
 step P (lone (b.atR a (.inScope c::k)) cs w)=.next (lone (b.atR a k) cs w):=
 step_lone_go (by simp [stepG,stepG.exec,Frame.atR])
theorem Uw {P:Program} {rd:Option Nat} {c:Code} {Q:Exit->Act->World->Prop} {a:Act} {w:World} (h:c.wpIn (cd rd) 0 P (Exit.noGoto Q) a w):(Code.scope c).wpIn (cd rd) 0 P Q a w:=by
 intro b k cs mM aj aK;obtain ⟨e,vq,xp,aq,ku⟩:=h b (.inScope c::k) cs mM aj aK;have ar:∀id,exitTo id (.inScope c::k)=exitTo id k:=fun id=>by simp [exitTo]
 cases e with
 | normal=>exact ⟨.normal,vq,xp,aq,.head (rh _) zH (StepsIn.trans ku (.one (rh _) akz))⟩
 | exit id=>exact ⟨.exit id,vq,xp,aq,fun bu ay=>.head (rh _) zH (ku.1 bu (by rw [ar];exact ay)),fun sH ay=>let ⟨k₁,J,ad⟩:=ku.2 sH (by rw [ar];exact ay);⟨k₁,J,.head (rh _) zH ad⟩⟩
 | goto l=>exact aq.elim
 | ret=>exact ⟨_,vq,xp,aq,.of_steps (.one (rh _) zH) ku⟩
 | panic al7=>exact ⟨_,vq,xp,aq,.of_steps (.one (rh _) zH) ku⟩
 | outgrown=>exact ⟨_,vq,xp,aq,.of_steps (.one (rh _) zH) ku⟩
theorem Zw (dE:C.P.follows .mixedOrders=true) (aM:fa C.P) (hC:p9 C) {ex:iK} (hex:tl C.P ex) (az:Nat):∀c:Code,LB C.P az c ((j' C az c).run ex):=by
 have db:=Y1 dE aM hC hex;have eh:=Y0 (C:=C) ex;intro c
 induction c with
 | skip=>
   intro rd aB r h aK E a w k s Q ak;exact wpIn_skip (ak E a w (Env.le.refl E) k s)
 | label l=>
   intro rd aB r h aK E a w k s Q ak;exact wpIn_label (ak E a w (Env.le.refl E) k s)
 | exit id=>
   intro rd aB r h aK E a w k s Q ak;exact wpIn_exit (ak E a w (Env.le.refl E) k s)
 | ret=>
   intro rd aB r h aK E a w k s Q ak;exact wpIn_ret (ak E a w (Env.le.refl E) k s)
 | region id ops draw=>
   intro rd aB r h aK E a w k s Q ak;have lift:∀x:o',xN aB E az Q (match x with | .ok bH ab=>.ok .normal bH ab | .c1 v bH ab=>.c1 v bH ab | .fail=>.fail)->oJ aB E az (Q .normal) Q x:=by intro x ar;cases x<;>exact ar
   cases draw with
   | true=>
     simp only [j',anC,FT] at ak;exact aab dE aM db eh (lift _ ak) k s
   | false=>
     simp only [j',anN,FT] at ak;refine wpIn_region ?_;have:=Ti (rd:=rd) (Q:=Q) aM db eh ops.toList 0 (fun j=>by simp) (aK.imp (fun h=>h) fun h=>by simpa only [noMark,an0] using h) E r h a w (lift _ ak) k s;rw [List.range_eq_range'];simpa using this
 | seq x y wG wH=>
   intro rd aB r h aK E a w k s Q ak;simp only [j',Ux] at ak;have yL:rd=none\/noMark x=true:=aK.imp (fun h=>h) fun h=>by simp only [noMark,anu] at h;exact h.1
   have Jj:rd=none\/noMark y=true:=aK.imp (fun h=>h) fun h=>by simp only [noMark,anu] at h;exact h.2
   refine wpIn_seq (wG rd aB r h yL E a w k s _ ?_).wp;cases ar:(j' C az x).run ex r h with
   | fail=>rw [ar] at ak;exact ak
   | c1 v bM J=>rw [ar] at ak;exact ak
   | ok al bM J=>
     rw [ar] at ak;simp only at ak;intro ax bw w' ag av aJ;cases al with
     | normal=>exact (wH rd aB bM J Jj ax bw w' av aJ Q (ak.up ag)).wp
     | exit id=>exact ak ax bw w' ag av aJ
     | ret=>exact ak ax bw w' ag av aJ
 | cond c x y wG wH=>
   intro rd aB r h aK E a w k s Q ak;simp only [j',OX] at ak;have yL:rd=none\/noMark x=true:=aK.imp (fun h=>h) fun h=>by simp only [noMark,anu] at h;exact h.1
   have Jj:rd=none\/noMark y=true:=aK.imp (fun h=>h) fun h=>by simp only [noMark,anu] at h;exact h.2
   have ao:=eb k.toRegRel0 c;cases bB:(bZ c).run r<;>rw [bB] at ak ao<;>simp only at ak<;>try (exact ak.elim)
   rename_i t;simp only [Rel] at ao;cases t with
   | true=>exact wpIn_cond_true ao (wG rd aB r h yL E a w k s Q ak).wp
   | false=>exact wpIn_cond_false ao (wH rd aB r h Jj E a w k s Q ak).wp
 | block id x bC=>
   intro rd aB r h aK E a w k s Q ak;simp only [j',Mv] at ak;refine wpIn_block (bC rd aB r h (aK.imp (fun h=>h) fun h=>h) E a w k s _ ?_).wp;cases ar:(j' C az x).run ex r h with
   | fail=>rw [ar] at ak;exact ak
   | c1 v bM J=>rw [ar] at ak;exact ak
   | ok al bM J=>
     rw [ar] at ak;simp only at ak;intro ax bw w' ag av aJ;cases al with
     | normal=>exact ak ax bw w' ag av aJ
     | ret=>exact ak ax bw w' ag av aJ
     | exit i=>
       simp only [h_] at ak;simp only [toExit,Exit.inBlock];by_cases au:i=id
       . rw [anL au] at ak ⊢;exact ak ax bw w' ag av aJ
       . rw [anE au] at ak ⊢;exact ak ax bw w' ag av aJ
 | loop x bC=>
   intro rd aB r h aK E a w k s Q ak;simp only [j',Sx] at ak;have yL:rd=none\/noMark x=true:=aK.imp (fun h=>h) fun h=>h;intro b dB cs mM;cases ar:(j' C az x).run ex r h with
   | fail=>rw [ar] at ak;exact ak.elim
   | c1 v bM J=>
     rw [ar] at ak;have body:=(bC rd aB r h yL E a w k s (fun dL bw w'=>∃y,dL=.panic y/\Q dL bw w') (by rw [ar];exact fun ax bw w' x ag av aJ bU=>⟨_,rfl,ak ax bw w' x ag av aJ bU⟩)).wp b (.inLoop x::dB) cs mM trivial (K2 _);obtain ⟨aN,a2,b1,⟨y,rfl,q⟩,ku⟩:=body;exact ⟨_,a2,b1,q,.pass (x:=.inLoop x) rfl (fun _ _=>.inl (by simp)) ku⟩
   | ok al bM J=>
     rw [ar] at ak;simp only at ak;have body:=(bC rd aB r h yL E a w k s
      (fun dL bw w'=>dL=toExit al/\∃ax,E.le ax/\fZ ax az bM bw/\bd aB ax J w') (by rw [ar];exact fun ax bw w' ag av aJ=>⟨rfl,ax,ag,av,aJ⟩)).wp b (.inLoop x::dB) cs mM trivial (K2 _)
     obtain ⟨aN,a2,b1,⟨rfl,aI,ag,av,aJ⟩,ku⟩:=body;cases al with
     | normal=>
       have next:=hex az (.loop x) rd aB bM J aK aI a2 b1 av aJ Q (ak.up ag)
       obtain ⟨cj,a3,jt,ct,cy⟩:=next b dB cs mM
       exact ⟨cj,a3,jt,ct,.of_steps (StepsIn.trans ku (.one (rh _) stepR_inLoop)) cy⟩
     | exit id=>exact ⟨.exit id,a2,b1,ak aI a2 b1 ag av aJ,.pass (x:=.inLoop x) rfl (fun _ _=>.inl (by simp)) ku⟩
     | ret=>exact ⟨.ret,a2,b1,ak aI a2 b1 ag av aJ,.pass (x:=.inLoop x) rfl (fun _ _=>.inl (by simp)) ku⟩
 | scope x bC=>
   intro rd aB r h aK E a w k s Q ak;simp only [j'] at ak;refine Uw (bC rd aB r h (aK.imp (fun h=>h) fun h=>h) E a w k s _ ?_).wp;cases ar:(j' C az x).run ex r h with
   | fail=>rw [ar] at ak;exact ak
   | c1 v bM J=>rw [ar] at ak;exact ak
   | ok al bM J=>
     rw [ar] at ak;intro ax bw w' ag av aJ;have:=ak ax bw w' ag av aJ;cases al<;>exact this
 | rangeFunc f bE x y _ _=>
   intro rd aB r h aK E a w k s Q ak;rcases aK with rfl | aK
   case inr=>cases aK
   simp only [j'] at ak;exact ajo dE aM hC hex k s ak
 | goto l=>intro rd aB r h aK E a w k s Q ak;exact ak.elim
 | refuse alo=>intro rd aB r h aK E a w k s Q ak;exact ak.elim
end
section
variable {C:Ctx}
theorem PL (dE:C.P.follows .mixedOrders=true) (aM:fa C.P) (hC:p9 C):∀n,tl C.P (exec C n)
 | 0=>fun az c rd aB r h aK E a w k s Q ak=>ak.elim
 | n+1=>fun az c=>Zw dE aM hC (PL dE aM hC n) az c
theorem Hx (dE:C.P.follows .mixedOrders=true) (aM:fa C.P) (hC:p9 C) {n:Nat} {f:FuncId} {args:List V} {h ab:ah} {v:V} (aA:Nat.beq f dy=false) (ar:C.ext f=none) (he:sj C n f args h=.val v ab)
 {aB:Fr} {E:Env} {w:World} {xs:List Value} (aw:bm E args xs) (s:bd aB E h w):
 (∃fn,C.P.funcs[f]? =some fn/\fn.body.isSome=true)/\Calls C.P f xs.toArray w fun e w'=>∃ax x,e=.returned x/\E.le ax/\Rel ax v x/\bd aB ax ab w':=by
 unfold sj sk at he;rw [aA,anN,ar] at he;simp only at he;exact D9 aM dE hC (PL dE aM hC n) aw s (by rw [he];exact fun ax x w' ag av aJ=>⟨ax,x,rfl,ag,av,aJ⟩)
theorem F7 (w:World) (hw:Lay.ok w):bd ⟨w,fun _=>none⟩ (fun _=>none) ah.empty w:=by
 refine ⟨fun b _=>?_,fun _ _ h=>(by cases h),(fun b bV p p' _ _ h=>by cases h),fun _ _=>rfl,Below.refl _ _,hw,(fun _ _ _ _ _ _ h=>by cases h)⟩;have:ah.empty.get b=.dead:=by simp [ah.get,ah.empty]
 rw [this];trivial
theorem ak7 (dE:C.P.follows .mixedOrders=true) (aM:fa C.P) {w:World} (hw:Lay.ok w) (hC:p9 C) {n:Nat} {f:FuncId} (aA:Nat.beq f dy=false) (ar:C.ext f=none) (h:Lj C n f []=true):
 Calls C.P f #[] w fun e w'=>e=.returned (.bool true)/\Below w.heap.size w w':=by
 unfold Lj at h;cases ao:sj C n f [] ah.empty with
 | fail=>rw [ao] at h;cases h
 | c1 _ _=>rw [ao] at h;cases h
 | val v bp=>
   rw [ao] at h;simp only at h;cases v<;>simp only at h<;>try (cases h;done)
   subst h;obtain ⟨_,kv⟩:=Hx dE aM hC aA ar ao (aB:=⟨w,fun _=>none⟩) (E:=fun _=>none) (w:=w) (xs:=[]) rfl (F7 w hw);refine kv.mono fun e w' aq=>?_;obtain ⟨ax,x,rfl,_,av,aJ⟩:=aq;simp only [Rel] at av;subst av;exact ⟨rfl,aJ.frame⟩
end
end
section
open Go Go.RowKit Go.ChangeShapes Go.WideShapes
variable [Lay]
section
variable {H:Type} {enc:TypeId × Value->H} {P:Program}
end
end
section
open Go Go.RowKit
variable [Lay]
theorem bd.below {aB:Fr} {E:Env} {h:ah} {w w':World} (s:bd aB E h w) (aj:Below w.heap.size w w'):bd aB E h w':=by
 have cx:aB.w.heap.size<=w.heap.size:=s.frame.size;have gw:∀(k:Nat) (o:Obj),w.heap[k]? =some o->w'.heap[k]? =some o:=by
  intro k o ay;rw [aj.block k,ay];by_cases aH:k<w.heap.size
  . exact aH
  . rw [aoX (by omega)] at ay;cases ay
 refine ⟨fun b ak=>?_,s.pM,s.inj,s.fresh,s.frame.trans (aj.mono cx),s.laid,s.base⟩;have:=s.bh b ak;cases ay:h.get b<;>rw [ay] at this<;>simp only [hl] at this ⊢
 . obtain ⟨ag,p,c,el,b5,av,aJ,bU,cX⟩:=this;exact ⟨ag,p,c,el,b5,av,aJ,gw _ _ bU,cX⟩
 . obtain ⟨ag,p,c,el,b5,av,aJ,bU,cX⟩:=this;exact ⟨ag,p,c,el,b5,av,aJ,gw _ _ bU,cX⟩
 . obtain ⟨p,ag,av,aJ,bU⟩:=this;exact ⟨p,ag,av,aJ,gw _ _ bU⟩
 . obtain ⟨p,a,ag,av,aJ,bU⟩:=this;exact ⟨p,a,ag,av,gw _ _ aJ,bU⟩
 . obtain ⟨p,o,ag,av,aJ,bU⟩:=this;exact ⟨p,o,ag,av,gw _ _ aJ,bU⟩
 . obtain ⟨p,ag,av,aJ⟩:=this;exact ⟨p,ag,av,gw _ _ aJ⟩
 . obtain ⟨p,a,c,l,ag,av,aJ,bU⟩:=this;exact ⟨p,a,c,l,ag,av,gw _ _ aJ,bU⟩
 . obtain ⟨p,m,a,ag,av,aJ,bU,cX⟩:=this;exact ⟨p,m,a,ag,av,aJ,gw _ _ bU,cX⟩
theorem agb {P:Program} {f:FuncId} {args:List V} {v:V} {h:ah} (H:∀E xs w,Lay.ok w->bm E args xs->Calls P f xs.toArray w fun e w'=>∃x,e=.returned x/\Rel E v x/\Below w.heap.size w w')
 (aB:Fr) (E:Env) (w:World) (xs:List Value) (ar:bm E args xs) (s:bd aB E h w):Calls P f xs.toArray w fun e w'=>∃ax x,e=.returned x/\E.le ax/\Rel ax v x/\bd aB ax h w':=by
 refine (H E xs w (Lay.gw s.laid s.frame) ar).mono fun e w' q=>?_;obtain ⟨x,rfl,bB,aj⟩:=q;exact ⟨E,x,rfl,Env.le.refl E,bB,s.below aj⟩
theorem aaD {P:Program} {f:FuncId} {fn:Func} {e:Array Value->Sem Value} (aA:P.funcs[f]? =some fn) (aX:(fn.name == "runtime.NumGoroutine")=false) (aj:fn.body.isNone=true) (J:Extern.findNext fn=none) (ad:Extern.find fn=some e)
 {xs:Array Value} {x:Value} {w:World} (aK:(e xs).run P w=.ok x w):(callFunc f xs).run P w=.ok (.value x) w:=by
 simp only [callFunc,Sem.run_bind,run_program,Result.andThen_ok,aA];rw [anE (by rw [aX];simp),anL aj];simp only [Sem.run_bind,J,ad];have hm:(mark (.extern f)).run P w=.ok () w:=rfl;rw [hm];simp only [Result.andThen_ok,aK,Sem.run_pure]
def BO (c:Nat):List UInt8->Nat->Int
 | [],_=>-1
 | b::l,i=>bif Nat.beq b.toNat c then .ofNat i else BO c l (i+1)
theorem RM (c:Nat) (ao:c<256):∀(l:List UInt8) (i:Nat),BO c l i=if Lib.indexByte l c.toUInt8=-1 then -1 else Lib.indexByte l c.toUInt8+i
 | [],i=>by simp [BO,Lib.indexByte]
 | b::l,i=>by
   have kx:=Lib.indexByte_ge l c.toUInt8;have tP:(b.toNat=c)↔(b == c.toUInt8)=true:=by
    rw [ao5,<-apu];have:c.toUInt8.toNat=c:=by show c % 256=c;omega
    rw [this]
   have e:Lib.indexByte (b::l) c.toUInt8=if (b == c.toUInt8)=true then 0 else if (Lib.indexByte l c.toUInt8 == -1)=true then -1 else Lib.indexByte l c.toUInt8+1:=rfl;simp only [BO,RM c ao l (i+1),h_];by_cases h:b.toNat=c
   . rw [anL (tP.1 h)] at e;rw [anL h,e];simp
   . rw [anE (fun e=>h (tP.2 e))] at e;rw [anE h];by_cases ad:Lib.indexByte l c.toUInt8=-1
     . rw [ad] at e;simp only [beq_self_eq_true,an7] at e;simp [ad,e]
     . have aC:(Lib.indexByte l c.toUInt8 == -1)=false:=by simpa using ad
       rw [aC] at e;simp only [anV,an4] at e;rw [anE ad,e,anE (by omega)];omega
def preB:List UInt8->List UInt8->Bool
 | [],_=>true
 | _::_,[]=>false
 | a::x,b::y=>bif Nat.beq a.toNat b.toNat then preB x y else false
theorem KG:∀(x y:List UInt8),preB x y=x.isPrefixOf y
 | [],y=>by cases y<;>rfl
 | _::_,[]=>rfl
 | a::x,b::y=>by
   simp only [preB,List.isPrefixOf,h_,KG x y];by_cases h:a.toNat=b.toNat
   . have:a=b:=apu.1 h;subst this;simp
   . have:(a == b)=false:=by
      rw [aoQ];exact fun e=>h (by rw [e])
     rw [anE h,this];rfl
def hasB:List UInt8->List UInt8->Bool
 | [],sub=>preB sub []
 | b::l,sub=>bif preB sub (b::l) then true else hasB l sub
theorem Qs:∀(s sub:List UInt8),hasB s sub=Lib.contains s sub
 | [],sub=>by simp only [hasB,KG,Lib.contains,Lib.index];cases sub<;>simp
 | b::l,sub=>by
   simp only [hasB,KG];have bC:=Qs l sub;unfold Lib.contains at bC ⊢;unfold Lib.index;cases h:sub.isPrefixOf (b::l) with
   | true=>simp
   | false=>
     simp only [anN,anV,an4,bC];have kx:=Lib.index_ge l sub;cases ad:(Lib.index l sub == -1) with
     | true=>
       have:Lib.index l sub=-1:=by simpa using ad
       simp [this]
     | false=>
       have:Lib.index l sub≠-1:=by simpa using ad
       simp only [anV,an4];rw [aon,anM,anM];omega
def HD:xO:=⟨fun args h=>match args with
 | [x,y]=>(match x with
   | .str s=>(match y with
     | .str sub=>bif Nat.ble s.length 100000 then .val (.bool (hasB s sub)) h else .fail
     | _=>.fail)
   | _=>.fail)
 | _=>.fail⟩
theorem ZD {args:List V} {h ab:ah} {v:V} (he:HD.run args h=.val v ab):∃s sub,args=[.str s,.str sub]/\s.length<=100000/\v=.bool (Lib.contains s sub)/\ab=h:=by
 simp only [HD] at he
 split at he
 case h_2=>cases he
 split at he
 case h_2=>cases he
 split at he
 case h_2=>cases he
 obtain ⟨ao,J⟩:=jV he;simp only [a8.val.injEq] at J;obtain ⟨rfl,rfl⟩:=J;exact ⟨_,_,rfl,an9 ao,by rw [Qs],rfl⟩
def EJ:xO:=⟨fun args h=>match args with
 | [x,y]=>(match x with
   | .str s=>(match y with
     | .int k c=>bif oS k .u8&&(Int.leB 0 c&&Nat.blt c.toNat 256) then .val (.int .i64 (BO c.toNat s 0)) h else .fail
     | _=>.fail)
   | _=>.fail)
 | _=>.fail⟩
theorem ad1 {args:List V} {h ab:ah} {v:V} (he:EJ.run args h=.val v ab):∃s c,args=[.str s,.int .u8 c]/\v=.int .i64 (Lib.indexByte s c.toNat.toUInt8)/\ab=h:=by
 simp only [EJ] at he
 split at he
 case h_2=>cases he
 split at he
 case h_2=>cases he
 split at he
 case h_2=>cases he
 rename_i s _ k c;obtain ⟨ao,J⟩:=jV he;simp only [anu,aoa] at ao;have ay:=sn ao.1;subst ay;simp only [a8.val.injEq] at J;obtain ⟨rfl,rfl⟩:=J;refine ⟨s,c,rfl,?_,rfl⟩;rw [RM _ ao.2.2];by_cases h:Lib.indexByte s c.toNat.toUInt8=-1
 . rw [anL h,h]
 . rw [anE h];simp
theorem ad0 {P:Program} {f:FuncId} {fn:Func} (aA:P.funcs[f]? =some fn) (aX:(fn.name == "runtime.NumGoroutine")=false) (aj:fn.body.isNone=true) (J:Extern.findNext fn=none) (ad:Extern.find fn=some Extern.BytealgIndexByte.indexByte)
 {args:List V} {h ab:ah} {v:V} (he:EJ.run args h=.val v ab) (aB:Fr) (E:Env) (w:World) (xs:List Value) (ar:bm E args xs) (s:bd aB E h w):
 ∃ax x w',(callFunc f xs.toArray).run P w=.ok (.value x) w'/\E.le ax/\Rel ax v x/\bd aB ax ab w':=by
 obtain ⟨t,c,rfl,rfl,rfl⟩:=ad1 he;obtain ⟨y,cT,rfl,ag,z,p0,rfl,av,rfl⟩:=ar;simp only [Rel] at ag av;subst ag av;exact ⟨E,_,w,aaD aA aX aj J ad (Lib.run_indexByteString _ _ _),Env.le.refl E,by simp [Rel],s⟩
end
section
open Go Go.RowKit Go.Maps Go.Sort Go.Shelf
open Go.Proofs (encStr)
variable [Lay]
end
section
open Go Go.RowKit
variable [Lay]
def xh (cs:T V) (off:Nat):Nat->Option (List (List UInt8))
 | 0=>some []
 | n+1=>(match T.get .bad (aD off) cs with
   | .str s=>(match xh cs (off+1) n with
     | some l=>some (s::l)
     | none=>none)
   | _=>none)
def UO (r:List UInt8) (h:ah):a8:=bif Nat.ble r.length 1000000 then .val (.str r) h else .fail
def EO (h:ah) (b:aU) (off len:Nat) (sep:List UInt8):a8:=
 match h.get b with
 | .cells n cs _ _=>bif Nat.ble (off+len) n&&Nat.ble len 1000000 then (match xh cs off len with
   | some l=>UO (Lib.join l sep) h
   | none=>.fail) else .fail
 | _=>.fail
def JJ:xO:=⟨fun args h=>match args with
 | [x,y]=>(match y with
   | .str sep=>(match x with
     | .cr=>.val (.str []) h
     | .slice b off len _=>EO h b off len sep
     | .et b off len _=>EO h b off len sep
     | _=>.fail)
   | _=>.fail)
 | _=>.fail⟩
structure GL (P:Program) (f:FuncId):Prop where
 many:∀(AD o c:Nat) (xs:List ByteArray) (sep:ByteArray) (w:World),(∀(j:Nat) x,xs[j]? =some x->w.cell? ⟨AD,o+j,none⟩=some (.string x))->AD<w.heap.size->xs.length<=140737488355328->xs.length<=c->
  (Lib.join (xs.map (·.data.toList)) sep.data.toList).length<=140737488355328->
  Calls P f #[.slice (some ⟨AD,o,none⟩) xs.length c,.string sep] w fun e w'=>e=.returned (.string ⟨(Lib.join (xs.map (·.data.toList)) sep.data.toList).toArray⟩)/\Below w.heap.size w w'
 Fh:∀(a:Option Addr) (c:Nat) (sep:ByteArray) (w:World),Calls P f #[.slice a 0 c,.string sep] w fun e w'=>e=.returned (.string ⟨#[]⟩)/\w'=w
theorem UP {cs:T V}:∀{n off:Nat} {l:List (List UInt8)},xh cs off n=some l->l.length=n/\∀j s,l[j]? =some s->T.get .bad (aD (off+j)) cs=.str s
 | 0,off,l,h=>by simp only [xh,ant] at h;subst h;exact ⟨rfl,fun j s h=>by simp at h⟩
 | n+1,off,l,h=>by
   simp only [xh] at h
   split at h
   case h_2=>cases h
   rename_i s aL;cases aK:xh cs (off+1) n with
   | none=>rw [aK] at h;cases h
   | some gm=>
     rw [aK] at h;simp only [ant] at h;subst h;obtain ⟨g1,g2⟩:=UP aK;refine ⟨by simp [g1],fun j t aE=>?_⟩;cases j with
     | zero=>
       simp only [anR,ant] at aE;subst aE;exact aL
     | succ j=>
       have:=g2 j t (by simpa using aE);rw [show off + (j+1)=off+1+j from by omega];exact this
theorem RN {P:Program} {f:FuncId} (K:GL P f) {h ab:ah} {b:aU} {off len:Nat} {sep:List UInt8} {v:V} (he:EO h b off len sep=.val v ab) {aB:Fr} {E:Env} {w:World} (s:bd aB E h w) {p:jb} (ak:E b=some p) {c:Nat} (ao:len<=c):
 Calls P f #[.slice (some ⟨p.bh,p.base+off,none⟩) len c,.string ⟨⟨sep⟩⟩] w fun e w'=>∃ax x,e=.returned x/\E.le ax/\Rel ax v x/\bd aB ax ab w':=by
 unfold EO at he
 split at he
 case h_2=>cases he
 rename_i n cs cH st n5;obtain ⟨Be,he⟩:=jV he;simp only [anu,anS] at Be;cases aw:xh cs off len with
 | none=>rw [aw] at he;cases he
 | some L=>
   rw [aw] at he;simp only [UO] at he;obtain ⟨IM,he⟩:=jV he;rw [anS] at IM;simp only [a8.val.injEq] at he;obtain ⟨rfl,rfl⟩:=he;obtain ⟨g1,g2⟩:=UP aw;have aj:=s.at ak;rw [n5] at aj;obtain ⟨_,p',OQ,el,b5,al,_,wa,_,_,_,Er⟩:=aj;rw [ak] at al;cases al;have aH:=(anx.1 wa).1;have nt:(L.map fun x=>(⟨⟨x⟩⟩:ByteArray)).map (·.data.toList)=L:=by rw [List.map_map];exact (List.map_congr_left (fun _ _=>rfl)).trans (List.map_id L)
   have cells:∀(j:Nat) (x:ByteArray),(L.map fun x=>(⟨⟨x⟩⟩:ByteArray))[j]? =some x->w.cell? ⟨p.bh,p.base+off+j,none⟩=some (.string x):=by
    intro j x ar;rw [aoo] at ar;cases cB:L[j]? with
    | none=>rw [cB] at ar;cases ar
    | some t=>
      rw [cB] at ar;cases ar;have bI:j<len:=by rw [<-g1];exact (anU.1 cB).1
      have cx:p.base+off+j<OQ.size:=by have:=Er.1;omega
      have aK:=Er.2 (off+j) OQ[p.base+off+j] (by omega) (by rw [<-aoH];exact anQ cx);rw [g2 j t cB] at aK;simp only [Rel] at aK;simp only [World.cell?,wa];rw [<-aK];exact anQ cx
   have:=K.many p.bh (p.base+off) c (L.map fun x=>(⟨⟨x⟩⟩:ByteArray)) ⟨⟨sep⟩⟩ w cells aH (by rw [anK];omega) (by rw [anK];omega) (by rw [nt];show (Lib.join L sep).length<=_;omega);rw [nt,anK,g1] at this;refine this.mono fun e w' q=>?_;exact ⟨E,_,q.1,fun _ _ q=>q,by simp only [Rel],s.below q.2⟩
theorem aef {P:Program} {f:FuncId} (K:GL P f) {args:List V} {h ab:ah} {v:V} (he:JJ.run args h=.val v ab)
 (aB:Fr) (E:Env) (w:World) (xs:List Value) (ar:bm E args xs) (s:bd aB E h w):
 Calls P f xs.toArray w fun e w'=>∃ax x,e=.returned x/\E.le ax/\Rel ax v x/\bd aB ax ab w':=by
 simp only [JJ] at he
 split at he
 case h_2=>cases he
 rename_i x y
 split at he
 case h_2=>cases he
 rename_i sep;obtain ⟨X,_,rfl,ag,Y,_,rfl,av,rfl⟩:=ar;simp only [Rel] at av;subst av;cases x<;>simp only at he<;>first
  | (cases he;done)
  | skip
 . simp only [Rel] at ag;obtain ⟨p,ak,ao,rfl⟩:=ag;exact RN K he s ak ao
 . simp only [Rel] at ag;obtain ⟨p,ak,ao,rfl⟩:=ag;exact RN K he s ak (by omega)
 . simp only [a8.val.injEq] at he;obtain ⟨rfl,rfl⟩:=he;simp only [Rel] at ag;subst ag;refine (K.Fh none 0 ⟨⟨sep⟩⟩ w).mono fun e w' q=>?_;obtain ⟨ag,rfl⟩:=q;exact ⟨E,_,ag,fun _ _ q=>q,by simp only [Rel],s⟩
def DT:Nat->Nat->List UInt8->List UInt8
 | 0,_,acc=>acc
 | f+1,u,acc=>bif Nat.blt u 10 then UInt8.ofNat (48+u)::acc else DT f (u / 10) (UInt8.ofNat (48+u % 10)::acc)
theorem Ph:∀(f u:Nat) (acc:List UInt8),u<10 ^ (f+1)->DT (f+1) u acc=Lib.decDigits u++acc
 | f,u,acc,h=>by
   rw [DT,Lib.decDigits];by_cases hu:u<10
   . rw [dif_pos hu,show Nat.blt u 10=true from by rw [aoa];exact hu];rfl
   . rw [dif_neg hu,show Nat.blt u 10=false from by rw [<-aof,aoa];exact hu,anN];cases f with
     | zero=>simp at h;omega
     | succ f=>
       rw [Ph f (u / 10) _ (by rw [Nat.pow_succ] at h;omega),anG];rfl
def JI:xO:=⟨fun args h=>match args with
 | [x]=>(match x with
   | .int k n=>(match n with
     | .ofNat u=>bif oS k .i64&&Nat.blt u 1000000000000000000 then .val (.str (DT 18 u [])) h else .fail
     | .negSucc _=>.fail)
   | _=>.fail)
 | _=>.fail⟩
def LM (P:Program) (f:FuncId):Prop:=∀(n:Int) (w:World),Lay.ok w->-9223372036854775808<=n->n<=9223372036854775807->
 Calls P f #[.int .i64 n] w fun e w'=>e=.returned (.string ⟨(Lib.itoa n).toArray⟩)/\Below w.heap.size w w'
theorem aeb {P:Program} {f:FuncId} (K:LM P f) {args:List V} {h ab:ah} {v:V} (he:JI.run args h=.val v ab)
 (aB:Fr) (E:Env) (w:World) (xs:List Value) (ar:bm E args xs) (s:bd aB E h w):
 Calls P f xs.toArray w fun e w'=>∃ax x,e=.returned x/\E.le ax/\Rel ax v x/\bd aB ax ab w':=by
 simp only [JI] at he
 split at he
 case h_2=>cases he
 rename_i x
 split at he
 case h_2=>cases he
 rename_i k n
 split at he
 case h_2=>cases he
 rename_i u;obtain ⟨Be,bB⟩:=jV he;clear he;simp only [anu,aoa] at Be;have ay:=sn Be.1;subst ay;simp only [a8.val.injEq] at bB;obtain ⟨rfl,rfl⟩:=bB;obtain ⟨X,_,rfl,ag,rfl⟩:=ar;simp only [Rel] at ag;subst ag;refine (K (.ofNat u) w (Lay.gw s.laid s.frame) (by have:(0:Int)<=.ofNat u:=Int.natCast_nonneg u;omega) (by have:(Int.ofNat u)=(u:Int):=rfl;omega)).mono fun e w' q=>?_;refine ⟨E,_,q.1,fun _ _ q=>q,?_,s.below q.2⟩;simp only [Rel];rw [Ph 17 u [] Be.2,an_];have:¬(Int.ofNat u<0):=by have:(0:Int)<=.ofNat u:=Int.natCast_nonneg u;omega
 unfold Lib.itoa;rw [anE this];rfl
end
end Go.Proofs.YtefceblncmdkhaaGreatDoor.bb
