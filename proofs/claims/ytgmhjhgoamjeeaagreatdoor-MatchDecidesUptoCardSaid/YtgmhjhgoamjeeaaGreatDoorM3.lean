/- The abstract machine and its walks (a verified interpreter of the model's code: plain definitions and lemmas, no condition). Printed by a program from longer texts: names made short. -/
import Derived.Test.YtgmhjhgoamjeeaaGreatDoorM2
import Derived.Scope
import Derived.RangeFuncRecord
import Derived.Carry
import Derived.OpenShut
import Derived.ChangeSame
import Derived.Lib.Bytealg
import Derived.Lib.IndexMore
import Derived.Handed
import Derived.HandedShaped
set_option linter.unusedSectionVars false
set_option linter.unusedSimpArgs false
set_option linter.unusedVariables false
set_option maxHeartbeats 64000000
noncomputable section
namespace Go.Proofs.YtgmhjhgoamjeeaaGreatDoor.aX
section
open Go Go.RowKit
variable [Lay]
theorem Eo {α:Type} (p q:α->Bool):∀(l:List α),(∀x ∈ l,q x=true->p x=true)->(∃x ∈ l,p x=true/\q x=false)->l.countP q<l.countP p
 | [],_,h=>by obtain ⟨x,ak,_⟩:=h;simp at ak
 | a::l,aa,ad=>by
   have hle:l.countP q<=l.countP p:=List.countP_mono_left fun x ak=>aa x (by simp [ak]);obtain ⟨x,ak,ag,ay⟩:=ad;simp only [arM] at ak;rcases ak with rfl | ak
   . rw [List.countP_cons,List.countP_cons,ag,ay];simp;omega
   . have bc:=Eo p q l (fun y a6=>aa y (by simp [a6])) ⟨x,ak,ag,ay⟩;have bs:=aa a (by simp);rw [List.countP_cons,List.countP_cons];cases agc:q a with
     | true=>rw [bs agc];simp;omega
     | false=>simp;omega
theorem yb (e:Edge):Region.binds .any e=vY e:=by unfold Region.binds vY;cases e.ground<;>rfl
section
variable {P:Program}
theorem vh {order:List Nat}:∀{bo:List Nat} {k j p:Nat},CS order k bo=true->bo[j]? =some p->order[p]? =some (k+j)
 | [],_,j,p,_,h=>by simp at h
 | q::bo,k,j,p,ag,h=>by
   simp only [CS,arp] at ag;cases j with
   | zero=>
     simp only [arG,arq] at h;subst h;have aa:=ag.1;cases ay:order[q]? with
     | none=>rw [ay] at aa;cases aa
     | some i=>rw [ay] at aa;rw [arZ] at aa;rw [aa];rfl
   | succ j=>
     have:=vh ag.2 (show bo[j]? =some p by simpa using h);rw [this];congr 1;omega
theorem nQ {ops:Array Oper}:∀{order:List Nat} {p i:Nat} {o:Oper},order[p]? =some i->ops[i]? =some o->(hy ops order)[p]? =some o
 | [],p,i,o,h,_=>by simp at h
 | x::xs,p,i,o,h,aW=>by
   cases p with
   | zero=>
     simp only [arG,arq] at h;subst h;simp [hy,aW]
   | succ p=>simpa [hy] using nQ (show xs[p]? =some i by simpa using h) aW
theorem qD {ops:Array Oper}:∀{order:List Nat},(hy ops order).length=order.length
 | []=>rfl
 | x::xs=>by simp [hy,qD (order:=xs)]
structure Cert (P:Program) (ar:Nat) (ops:Array Oper) (calls:Nat->dT) (es:List eR) (a_:bI) (aY:ae) (c4:bI) (av:ae) (ey:List Nat) (order aE:List Nat) (N M:Nat) (lit:Bool):Prop where
 len:es.length=N
 CG:N<=ops.size
 US:N<=M
 iv:∀k,k<ops.size->posOf aE k<ops.size/\order[posOf aE k]? =some k
 lO:∀p,p<ops.size->∃i,i<ops.size/\posOf aE i=p
 aY:cg es av 0=aY
 a_:eo es c4 0=a_
 step:∀i o,ops[i]? =some o->posOf aE i<N->∃e,es[posOf aE i]? =some e/\(cI P ar ops o).run (calls i) e.r e.h=.val e.v (cg es av (posOf aE i+1))/\eo es c4 (posOf aE i+1)=(fD o.dst).run e.r e.v
 nv:∀i o,ops[i]? =some o->∃cS,(eK [] ops.toList)[i]? =some cS/\m' i o=true/\(posOf aE i<M->
  ∀k ok,ops[k]? =some ok->posOf aE k<M->∃mk,(eK [] ops.toList)[k]? =some mk/\pI i cS (b1 ops o) o.dst k mk ok (Nat.blt (posOf aE k) (posOf aE i))=true/\(eV P o.op=true->ee P ok=true->posOf aE k<posOf aE i->fO cS k=true\/(lit=true/\lI o=true/\lI ok=true)))
 ends:N ∈ ey
 mem:∀j o,ops[j]? =some o->ee P o=true->posOf aE j ∈ ey
 WR:∀s ∈ ey,(s=ops.size\/(s=N/\M=N))\/∃k o,ops[k]? =some o/\ee P o=true/\s=posOf aE k
 ask:∀j o,ops[j]? =some o->looks o.op=true->eV P o.op=false->posOf aE j<N->∃e,es[posOf aE j]? =some e/\∀s ∈ ey,
  tm P (eK [] ops.toList) ops.toList aE j (((eK [] ops.toList)[j]?).getD 0) s=true->∃c ab,(gN P c/\g_ P c)/\(cI P ar ops o).run c e.r (cg es av s)=.val e.v ab
 tail:M<ops.size->M=N/\∀k ok mk,ops[k]? =some ok->N<=posOf aE k->(eK [] ops.toList)[k]? =some mk->∀j,j<ops.size->posOf aE j<N->fO mk j=true
 stop:N<ops.size->ops.size<=M->∃i0 gX m0,ops[i0]? =some gX/\posOf aE i0=N/\mc gX.op=true/\(eK [] ops.toList)[i0]? =some m0/\
  (∀k ok mk,ops[k]? =some ok->N<posOf aE k->(eK [] ops.toList)[k]? =some mk->fO mk i0=true)/\
  (∀k ok,ops[k]? =some ok->gH ok=true->posOf aE k<N->fO m0 k=true)/\∃v ab,(cI P ar ops gX).run (calls i0) c4 av=.cP v ab
theorem UE {o:Oper} (h:mc o.op=true):eV P o.op=true/\gH o=false:=by
 obtain ⟨dst,op,type,pos,after,guard⟩:=o;cases op<;>simp only [mc] at h<;>try (cases h;done)
 . rename_i c;obtain ⟨callee,args,types⟩:=c;cases callee<;>simp only at h<;>try (cases h;done)
   exact ⟨rfl,rfl⟩
 . exact ⟨rfl,rfl⟩
variable {ar:Nat} {ops:Array Oper} {call:dT} {calls:Nat->dT} {es:List eR} {a_:bI} {aY:ae} {c4:bI} {av:ae} {ey:List Nat} {order aE:List Nat} {N M:Nat} {lit:Bool}
theorem Cert.xp (C:Cert P ar ops calls es a_ aY c4 av ey order aE N M lit) {k br:Nat} (aa:k<ops.size) (ad:br<ops.size) (he:posOf aE k=posOf aE br):k=br:=by have a:=(C.iv k aa).2;have b:=(C.iv br ad).2;rw [he,b] at a;cases a;rfl
theorem Q6 {ops:Array Oper} {aE:List Nat} (av:wa P ops aE=true):∀i o,ops[i]? =some o->∃cS,(eK [] ops.toList)[i]? =some cS/\m' i o=true/\
 ∀k ok,ops[k]? =some ok->∃mk,(eK [] ops.toList)[k]? =some mk/\pI i cS (b1 ops o) o.dst k mk ok (Nat.blt (posOf aE k) (posOf aE i))=true/\(eV P o.op=true->ee P ok=true->posOf aE k<posOf aE i->fO cS k=true):=by
 intro i o aw;unfold wa at av;obtain ⟨cS,aa,ad⟩:=qW av i o (by simpa using aw);simp only [arV,arp] at ad;refine ⟨cS,aa,ad.1,fun k ok aB=>?_⟩;obtain ⟨mk,b3,b5⟩:=qW ad.2 k ok (by simpa using aB);simp only [arV,arp] at b5;refine ⟨mk,b3,b5.1,fun aJ aR aS=>?_⟩;have dW:=b5.2;rw [aJ,aR,ar8,show Nat.blt (posOf aE k) (posOf aE i)=true from by rw [arS];exact aS] at dW;exact dW
theorem Cert.Ms (C:Cert P ar ops calls es a_ aY c4 av ey order aE N M lit):∀p,p<=N->∀t,t<=top->
 (∃k o e,posOf aE k<p/\ops[k]? =some o/\o.dst=some t/\es[posOf aE k]? =some e/\T.get .bad (az t) (eo es c4 p)=e.v)\/
 ((∀k o,posOf aE k<p->ops[k]? =some o->o.dst≠some t)/\T.get .bad (az t) (eo es c4 p)=T.get .bad (az t) a_)
 | 0,_,t,aG=>.inr ⟨fun k o h=>by omega,by rw [C.a_]⟩
 | p+1,aw,t,aG=>by
   obtain ⟨i,aS,j0⟩:=C.lO p (by have:=C.CG;omega);have cA:ops[i]? =some ops[i]:=arO aS;obtain ⟨e,aa,ad,aH⟩:=C.step i ops[i] cA (by omega);rw [j0] at aa ad aH;have KI:eo es c4 p=e.r:=by simp [eo,aa]
   have dP:=R9 (r:=e.r) (v:=e.v) (kO ad).1 aG;rw [aH,dP];by_cases aI:ops[i].dst=some t
   . rw [arz aI];exact .inl ⟨i,_,e,by omega,cA,aI,by rw [j0];exact aa,rfl⟩
   . rw [arw aI,<-KI];rcases Cert.Ms C p (by omega) t aG with ⟨k,o,cF,al,ao,aK,bG,cK⟩ | ⟨al,ao⟩
     . exact .inl ⟨k,o,cF,by omega,ao,aK,bG,cK⟩
     . refine .inr ⟨fun k o aB aW=>?_,ao⟩;by_cases gD:k=i
       . subst gD;rw [cA] at aW;cases aW;exact aI
       . refine al k o ?_ aW;have kp:=(art.1 aW).1;have:posOf aE k≠p:=fun e=>gD (C.xp kp aS (by rw [e,j0]));omega
theorem Cert.I9 (C:Cert P ar ops calls es a_ aY c4 av ey order aE N M lit):∀p,p<=N->T.get .bad eN (eo es c4 p)=T.get .bad eN a_
 | 0,_=>by rw [C.a_]
 | p+1,aw=>by
   obtain ⟨i,aS,j0⟩:=C.lO p (by have:=C.CG;omega);have cA:ops[i]? =some ops[i]:=arO aS;obtain ⟨e,aa,ad,aH⟩:=C.step i ops[i] cA (by omega);rw [j0] at aa ad aH;have KI:eo es c4 p=e.r:=by simp [eo,aa]
   have aI:=(kO ad).1;rw [aH,<-Cert.I9 C p (by omega),KI];cases afc:ops[i].dst with
   | none=>rfl
   | some d=>
     rw [afc] at aI;simp only [eO,arp,arH] at aI;simp only [fD];rw [T.ih,arw (xm aI.2)]
def nameAt (es:List eR) (av:ae) (aE:List Nat) (k:Nat):aM:=az (cg es av (posOf aE k)).next
def A1 (es:List eR) (av:ae) (aE:List Nat) (k:Nat):b6:=(cg es av (posOf aE k+1)).get (nameAt es av aE k)
def Made (es:List eR) (av:ae) (aE:List Nat) (k:Nat):Prop:=(cg es av (posOf aE k+1)).next≠(cg es av (posOf aE k)).next
def ke (ops:Array Oper) (es:List eR) (av:ae) (aE:List Nat) (listed:Array Bool) (s k:Nat):Prop:=
 ∃o,ops[k]? =some o/\(gH o=true/\Made es av aE k)/\¬listed.getD k false=true/\posOf aE k<s
structure Holds (aA F:Fr) (es:List eR) (av:ae) (aE:List Nat) (D:Nat->Prop):Prop where
 w:F.w=aA.w
 bL:∀b,(∀k,D k->nameAt es av aE k≠b)->F.hz b=aA.hz b
 new:∀k,D k->F.hz (nameAt es av aE k)=some (A1 es av aE k)/\aA.hz (nameAt es av aE k)=none
 inj:∀k br,D k->D br->nameAt es av aE k=nameAt es av aE br->k=br
theorem Holds.congr {aA F:Fr} {D Nt:Nat->Prop} (H:Holds aA F es av aE D) (h:∀k,Nt k↔D k):Holds aA F es av aE Nt:=
 ⟨H.w,fun b ah=>H.bL b fun k aB=>ah k ((h k).2 aB),fun k aB=>H.new k ((h k).1 aB),fun k br aB gn=>H.inj k br ((h k).1 aB) ((h br).1 gn)⟩
theorem Holds.none {aA F:Fr} {D:Nat->Prop} (H:Holds aA F es av aE D) (h:∀k,¬D k):F=aA:=by have:F.hz=aA.hz:=funext fun b=>H.bL b fun k aB=>absurd aB (h k);cases F;cases aA;have hw:=H.w;simp only at this hw;rw [this,hw]
theorem Cert.advance (C:Cert P ar ops calls es a_ aY c4 av ey order aE N M lit) {aA:Fr} {listed:Array Bool} {E:Env} {w:World}:∀(d q:Nat),q+d=N->(∀k o,ops[k]? =some o->gH o=true->q<=posOf aE k->¬listed.getD k false=true)->
 ∀F,Holds aA F es av aE (ke ops es av aE listed q)->ba F E (cg es av q) w->
 ∃s dU,s ∈ ey/\q<=s/\s<=N/\(∀k o,ops[k]? =some o->ee P o=true->q<=posOf aE k->s<=posOf aE k)/\Holds aA dU es av aE (ke ops es av aE listed s)/\ba dU E (cg es av s) w
 | 0,q,ay,_,F,H,S=>by
   have:q=N:=by omega
   subst this;exact ⟨q,F,C.ends,arv _,arv _,fun k o _ _ h=>h,H,S⟩
 | d+1,q,ay,uN,F,H,S=>by
   obtain ⟨i,aS,j0⟩:=C.lO q (by have:=C.CG;omega);have cA:ops[i]? =some ops[i]:=arO aS;cases lD:ee P ops[i] with
   | true=>exact ⟨q,F,by rw [<-j0];exact C.mem i _ cA lD,arv _,by omega,fun k o _ _ h=>h,H,S⟩
   | false=>
     obtain ⟨e,aa,ad,aH⟩:=C.step i ops[i] cA (by omega);rw [j0] at aa ad;have uI:cg es av q=e.h:=by simp [cg,aa]
     have only:∀k o,ops[k]? =some o->posOf aE k=q->k=i:=fun k o aB ag=>C.xp (art.1 aB).1 aS (by rw [ag,j0]);have fin:∀dU,Holds aA dU es av aE (ke ops es av aE listed (q+1))->ba dU E (cg es av (q+1)) w->
      ∃s dU,s ∈ ey/\q<=s/\s<=N/\(∀k o,ops[k]? =some o->ee P o=true->q<=posOf aE k->s<=posOf aE k)/\Holds aA dU es av aE (ke ops es av aE listed s)/\ba dU E (cg es av s) w:=by
      intro dU ef Yw;obtain ⟨s,XU,g1,g2,g3,g4,g5,g6⟩:=Cert.advance C d (q+1) (by omega) (fun k o aa ad aH=>uN k o aa ad (by omega)) dU ef Yw;refine ⟨s,XU,g1,by omega,g3,fun k o aB aq ag=>g4 k o aB aq ?_,g5,g6⟩;by_cases FE:posOf aE k=q
      . have:=only k o aB FE;subst this;rw [cA] at aB;cases aB;rw [lD] at aq;cases aq
      . omega
     have pass:cg es av (q+1)=e.h->(gH ops[i]=true->¬Made es av aE i)->∃s dU,s ∈ ey/\q<=s/\s<=N/\(∀k o,ops[k]? =some o->ee P o=true->q<=posOf aE k->s<=posOf aE k)/\Holds aA dU es av aE (ke ops es av aE listed s)/\ba dU E (cg es av s) w:=by
      intro yZ lG;rw [<-uI] at yZ;refine fin F (H.congr fun k=>⟨?_,?_⟩) (by rw [yZ];exact S)
      . rintro ⟨o,al,ao,aK,bG⟩;refine ⟨o,al,ao,aK,?_⟩;have:posOf aE k≠q:=fun e=>by
         have:=only k o al e;subst this;rw [cA] at al;cases al;exact lG ao.1 ao.2
        omega
      . rintro ⟨o,al,ao,aK,bG⟩;exact ⟨o,al,ao,aK,by omega⟩
     cases bs:gH ops[i] with
     | true=>
      rcases Q3 bs ad with ⟨cZ,b3,b5⟩ | ⟨b3,_⟩
      ·
       have aU:=S.hold cZ;have aV:nameAt es av aE i=az (cg es av q).next:=by unfold nameAt;rw [j0]
       have ah:A1 es av aE i=cZ:=by unfold A1;rw [aV,j0,b3,uI,ae.ig,arz rfl]
       rw [uI,<-b3] at aU;have afR:Made es av aE i:=by unfold Made;rw [j0,b3,uI];exact Nat.succ_ne_self _
       have rH:¬listed.getD i false=true:=uN i _ cA bs (by omega);have IP:∀k,ke ops es av aE listed (q+1) k->k=i\/ke ops es av aE listed q k:=by
        rintro k ⟨o,al,ao,aK,bG⟩;by_cases FE:posOf aE k=q
        . exact .inl (only k o al FE)
        . exact .inr ⟨o,al,ao,aK,by omega⟩
       have fresh:∀b hr,F.hz b=some hr->b≠nameAt es av aE i:=by intro b hr rr heq;obtain ⟨_,_,j,qv,w5⟩:=S.oP b hr rr;rw [heq,aV] at w5;rw [uI] at qv w5;have:=h5 w5;omega
       have TA:∀b,b≠nameAt es av aE i->(F.hold (az e.h.next) cZ).hz b=F.hz b:=by intro b SA;rw [aV,uI] at SA;simp only [Fr.hold,arw SA]
       have Zy:(F.hold (az e.h.next) cZ).hz (nameAt es av aE i)=some cZ:=by rw [aV,uI];simp only [Fr.hold,ar2]
       have ne:∀k,ke ops es av aE listed q k->nameAt es av aE k≠nameAt es av aE i:=fun k aB=>fresh _ _ (H.new k aB).1;refine fin (F.hold (az e.h.next) cZ) ⟨H.w,fun b rr=>?_,fun k aB=>?_,fun k br aB gn he=>?_⟩ aU
       . have wv:b≠nameAt es av aE i:=fun e=>rr i ⟨_,cA,⟨bs,afR⟩,rH,by omega⟩ e.symm;rw [TA b wv];exact H.bL b fun k aB=>rr k (by obtain ⟨o,al,ao,aK,bG⟩:=aB;exact ⟨o,al,ao,aK,by omega⟩)
       . rcases IP k aB with rfl | aB
         . refine ⟨by rw [Zy,ah],?_⟩;cases ag:aA.hz (nameAt es av aE k) with
           | none=>rfl
           | some hr=>
             exfalso;have:=H.bL (nameAt es av aE k) fun br gn=>ne br gn;rw [ag] at this;exact fresh _ _ this rfl
         . rw [TA _ (ne k aB)];exact H.new k aB
       . rcases IP k aB with rfl | aB<;>rcases IP br gn with rfl | gn
         . rfl
         . exact absurd he.symm (ne br gn)
         . exact absurd he (ne k aB)
         . exact H.inj k br aB gn he
      . refine pass b3 fun _ hm=>hm ?_;rw [j0,b3,uI]
     | false=>
       have c_:eV P ops[i].op=false:=by unfold ee at lD;rw [bs] at lD;simpa using lD
       exact pass (v_ c_ ad).1 fun h=>by rw [bs] at h;cases h
structure qY (P:Program) (aA:Fr) (ar:Nat) (ops:Array Oper) (es:List eR) (a_:bI) (av:ae) (ey aE:List Nat) (gz:Env) (N:Nat) (D:List Deferred) (listed:Array Bool) (a:Act) (w:World):Prop where
 tk:listed.size=ops.size
 size:a.tmps.size=ar
 defers:a.defers=D
 uo:∀k,listed.getD k false=true->posOf aE k<N
 down:q0 ops fun k=>listed.getD k false=true
 main:∃E s F,gz.le E/\s ∈ ey/\s<=N/\(∀k o,ops[k]? =some o->ee P o=true->(listed.getD k false=true↔posOf aE k<s))/\
  (∀k o,ops[k]? =some o->gH o=true->listed.getD k false=true->posOf aE k<s)/\Holds aA F es av aE (ke ops es av aE listed s)/\ba F E (cg es av s) w/\
  ∀t,t<=top->(∃k o e,listed.getD k false=true/\ops[k]? =some o/\o.dst=some t/\es[posOf aE k]? =some e/\Rel E e.v (a.tmps.getD t undef))\/
   ((∀k o,listed.getD k false=true->ops[k]? =some o->o.dst≠some t)/\Rel E (T.get .bad (az t) a_) (a.tmps.getD t undef))
theorem uz {l:Array Bool} {i:Nat}:l.getD i false=true↔l[i]? =some true:=by
 rw [arQ];cases l[i]? with
 | none=>simp
 | some b=>cases b<;>simp
theorem fJ {l:Array Bool} {i k:Nat} (aw:i<l.size):(l.setIfInBounds i true).getD k false=true↔(k=i\/l.getD k false=true):=by
 rw [uz,uz,arN];by_cases h:i=k
 . subst h;simp [aw]
 . have:¬k=i:=fun e=>h e.symm;simp [h,this]
theorem EH {r:bI} {t:Nat} (aG:t<=top):∀{l:List Oper},T.get .bad (az t) (pd r l)=.bad\/(T.get .bad (az t) (pd r l)=T.get .bad (az t) r/\∀o ∈ l,o.dst≠some t)
 | []=>.inr ⟨rfl,fun o aW=>by simp at aW⟩
 | o::os=>by
   simp only [pd];cases aI:o.dst with
   | none=>
     simp only;rcases EH (r:=r) aG (l:=os) with h | ⟨aa,ad⟩
     . exact .inl h
     . exact .inr ⟨aa,fun b9 hq=>by
        rcases arM.1 hq with rfl | hq
        . rw [aI];simp
        . exact ad b9 hq⟩
   | some d=>
     simp only;cases ah:Nat.ble d top with
     | true=>
       simp only [aru];rw [T.ih];by_cases wA:d=t
       . subst wA;rw [arz rfl];exact .inl rfl
       . rw [arw (fun e=>wA (h5 e))];rcases EH (r:=r) aG (l:=os) with h | ⟨aa,ad⟩
         . exact .inl h
         . exact .inr ⟨aa,fun b9 hq=>by
            rcases arM.1 hq with rfl | hq
            . rw [aI];simpa using wA
            . exact ad b9 hq⟩
     | false=>
       simp only [arB];have wA:d≠t:=fun e=>by subst e;rw [<-arH] at aG;rw [aG] at ah;cases ah
       rcases EH (r:=r) aG (l:=os) with h | ⟨aa,ad⟩
       . exact .inl h
       . exact .inr ⟨aa,fun b9 hq=>by
          rcases arM.1 hq with rfl | hq
          . rw [aI];simpa using wA
          . exact ad b9 hq⟩
theorem EG {r:bI}:∀{l:List Oper},T.get .bad eN (pd r l)=T.get .bad eN r
 | []=>rfl
 | o::os=>by
   simp only [pd];cases aI:o.dst with
   | none=>exact EG
   | some d=>
     simp only;cases ah:Nat.ble d top with
     | true=>
       simp only [aru];rw [T.ih,arw (xm (ar7 ah))];exact EG
     | false=>exact EG
theorem Q9 {rd:Option Nat} {D:List Deferred} {aA:Fr} (bF:eg P) (cf:∀i,gN P (calls i)) (dL:∀i,g_ P (calls i)) (C:Cert P ar ops calls es a_ aY c4 av ey order aE N M lit) {gz:Env} {listed:Array Bool} {a:Act} {w:World} (I:qY P aA ar ops es a_ av ey aE gz N D listed a w)
 {i:Nat} (aw:i ∈ Region.ready .any ops listed) (afz:posOf aE i<M) (wK:lit=true->∀o k ok,ops[i]? =some o->lI o=true->ops[k]? =some ok->lI ok=true->posOf aE k<posOf aE i->listed.getD k false=true) {Q:Exit->Act->World->Prop} {K:Act->World->Prop} (dO:∀bm w',qY P aA ar ops es a_ av ey aE gz N D (listed.setIfInBounds i true) bm w'->K bm w')
 (cD:∀au bm w' x v ab,gz.le au->N<ops.size->ops.size<=M->(∃i0 gX,ops[i0]? =some gX/\posOf aE i0=N/\(cI P ar ops gX).run (calls i0) c4 av=.cP v ab)->RegRel0 au ar (pd a_ ops.toList) bm->bm.defers=D->Rel au v x->ba aA au ab w'->Q (.panic (qF x)) bm w'):wpOpIn (ca rd) 0 P ops Q i K a w:=by
 rw [mem_ready] at aw;obtain ⟨E,s,F,iR,aU,FG,mH,cY,kn,rK,wU⟩:=I.main;obtain ⟨uN,o,cA,wB⟩:=aw;have dc:i<ops.size:=(art.1 cA).1;have uO:¬listed.getD i false=true:=by rw [uz];intro h;rw [arQ,h] at uN;simp at uN
 have S3:=Cz I.down ops.toList [] (fun j=>by simp) (fun k m j aB=>by simp at aB);have yG:q0 ops fun k=>listed.getD k false=true\/k=i:=by
  intro k ok e aB bB he ah;rcases aB with aB | rfl
  . exact .inl (I.down k ok e aB bB he ah)
  . rw [cA] at bB;cases bB;exact .inl (wB e (as2.1 he) (by rw [yb];exact ah))
 have afP:=Cz yG ops.toList [] (fun j=>by simp) (fun k m j aB=>by simp at aB);obtain ⟨cS,mI,iI,FD⟩:=C.nv i o cA;have FD:=FD afz;have JF:=C.US;have BD:∀k,k≠i->fO cS k=true->listed.getD k false=true:=by
  intro k aB ah;rcases afP i cS k mI ah (.inr rfl) with h | h
  . exact h
  . exact absurd h aB
 have dh:=(C.iv i dc).1;have af8:posOf aE i<=N:=by
  rcases asO N (posOf aE i) with afv | hle
  . exfalso;have E8:ops.size<=M:=by
     rcases asO M ops.size with h | h
     . have:=(C.tail h).1;omega
     . exact h
    obtain ⟨i0,gX,m0,bN,z2,z3,z4,z5,_⟩:=C.stop (by omega) E8;have ah:=z5 i o cS cA afv mI;have aa:=BD i0 (fun e=>by subst e;omega) ah;have:=I.uo i0 aa;omega
  . exact hle
 have uniq:∀(k br:Nat) (ok iu:Oper) (t:Nat),ops[k]? =some ok->ops[br]? =some iu->posOf aE k<M->posOf aE br<M->ok.dst=some t->iu.dst=some t->k=br:=by
  intro k br ok iu t aa ad cc cj aH bw;obtain ⟨mk,_,_,ag⟩:=C.nv k ok aa;obtain ⟨mk',_,im,_⟩:=ag cc br iu ad cj;unfold pI at im;rw [hG] at im;by_cases ko:k=br
  . exact ko
  . rw [arw ko,bw,aH] at im;simp at im
 have V5:iX (b1 ops o)=true->∀t ∈ b1 ops o,Rel E (T.get .bad (az t) (eo es c4 (posOf aE i))) (a.tmps.getD t undef):=by
  intro agv t aG;have y2:t<=top:=by have:=arU.1 agv t aG;exact ar7 this
  have Vm:∀(k:Nat) (ok:Oper),k≠i->posOf aE k<M->ops[k]? =some ok->ok.dst=some t->∃mk,(eK [] ops.toList)[k]? =some mk/\(posOf aE k<posOf aE i->fO cS k=true)/\(¬posOf aE k<posOf aE i->fO mk i=true):=by
   intro k ok aB Kb bB aI;obtain ⟨mk,al,ao,_⟩:=FD k ok bB Kb;refine ⟨mk,al,?_⟩;unfold pI at ao;rw [hG,arw (fun e=>aB e.symm),aI] at ao;simp only [arp] at ao;have aK:=ao.1;rw [show (b1 ops o).contains t=true from by simpa using aG] at aK;simp only [aru] at aK;refine ⟨fun aS=>?_,fun iH=>?_⟩
   . rw [show Nat.blt (posOf aE k) (posOf aE i)=true from by rw [arS];exact aS] at aK;exact aK
   . rw [show Nat.blt (posOf aE k) (posOf aE i)=false from by rw [<-ar4,arS];exact iH] at aK;exact aK
  rcases C.Ms (posOf aE i) af8 t y2 with ⟨k,ok,Ez,al,ao,aK,bG,cK⟩ | ⟨al,ao⟩
  . obtain ⟨mk,_,da,_⟩:=Vm k ok (fun e=>by subst e;omega) (by omega) ao aK;have BT:=BD k (fun e=>by subst e;omega) (da al);rcases wU t y2 with ⟨br,iu,Jd,ck,cB,eL,kC,pH⟩ | ⟨ck,_⟩
    . have:=uniq k br ok iu t ao cB (by omega) (by have:=I.uo br ck;omega) aK eL;subst this;rw [bG] at kC;cases kC;rw [cK];exact pH
    . exact absurd aK (ck k ok BT ao)
  . rcases wU t y2 with ⟨br,iu,Jd,ck,cB,eL,kC,pH⟩ | ⟨_,cB⟩
    . have gD:br≠i:=fun e=>uO (e ▸ ck);obtain ⟨mk,m1,_,cw⟩:=Vm br iu gD (by have:=I.uo br ck;omega) cB eL;by_cases aS:posOf aE br<posOf aE i
      . exact absurd eL (al br iu aS cB)
      . exact absurd (S3 br mk i m1 (cw aS) ck) uO
    . rw [ao];exact cB
 have level:eV P o.op=true->s<=posOf aE i->s=posOf aE i/\gH o=false:=by
  intro l5 hle;rcases C.WR s aU with (h | ⟨h,E7⟩) | ⟨k,ok,b3,b5,dW⟩
  . omega
  . omega
  . have S9:¬listed.getD k false=true:=fun h=>by have:=(mH k ok b3 b5).1 h;omega
    have kp:=(art.1 b3).1;by_cases gD:k=i
    . subst gD;rw [cA] at b3;cases b3;refine ⟨dW,?_⟩;unfold ee at b5;simpa [l5] using b5
    . have aS:posOf aE k<posOf aE i:=by
       have:posOf aE k≠posOf aE i:=fun e=>gD (C.xp kp dc e);omega
      obtain ⟨mk,_,_,aK⟩:=FD k ok b3 (by omega);rcases aK l5 b5 aS with h | ⟨g1,g2,g3⟩
      . exact absurd (BD k gD h) S9
      . exact absurd (wK g1 o k ok cA g2 b3 g3 aS) S9
 rcases asO (posOf aE i) N with Kk | ap9
 case inr=>
  have ks:posOf aE i=N:=by omega
  have E8:ops.size<=M:=by
   rcases asO M ops.size with h | h
   . have:=(C.tail h).1;omega
   . exact h
  obtain ⟨i0,gX,m0,bN,z2,z3,z4,z5,kI,v,ab,Nj⟩:=C.stop (by omega) E8;have afB:i0=i:=C.xp (art.1 bN).1 dc (by rw [z2,ks]);subst afB;rw [cA] at bN;cases bN;rw [mI] at z4;cases z4;obtain ⟨l5,afU⟩:=UE z3;have yK:ee P o=true:=by unfold ee;rw [l5,afU];rfl
  have uT:s<=posOf aE i0:=by
   rcases asO (posOf aE i0) s with h | h
   . exact absurd ((mH i0 o cA yK).2 h) uO
   . exact h
  have qm:=(level l5 uT).1;have hd:F=aA:=kn.none fun k aB=>by
   obtain ⟨ok,al,ao,aK,bG⟩:=aB;have gD:k≠i0:=fun e=>by subst e;omega
   exact aK (BD k gD (kI k ok al ao.1 (by omega)))
  subst hd;have dJ:es[N]? =none:=arW (by rw [C.len];exact arv _);have k1:=V5 (Q1 Nj).2;rw [ks] at k1;simp only [eo,dJ] at k1;rw [qm,ks] at rK;simp only [cg,dJ] at rK;refine acr bF (cf i0) (dL i0) cA Nj z3 I.size k1 rK fun au x w' al ao aK=>cD au a w' x v ab (iR.trans al) (by omega) E8 ⟨i0,o,cA,ks,Nj⟩ ⟨I.size,fun t aG=>?_⟩ I.defers ao aK;rcases EH (r:=a_) aG (l:=ops.toList) with h | ⟨aa,ad⟩
  . rw [h];simp [Rel]
  . rw [aa];rcases wU t aG with ⟨k,ok,Ez,ck,cB,eL,kC,pH⟩ | ⟨ck,cB⟩
    . exact absurd eL (ad ok (by rw [<-as5] at cB;exact arX cB))
    . exact Rel.mono al _ _ cB
 obtain ⟨e,ry,cV,aqn⟩:=C.step i o cA Kk;have hp:=kO cV;have eJ:eo es c4 (posOf aE i)=e.r:=by simp [eo,ry]
 have jZ:cg es av (posOf aE i)=e.h:=by simp [cg,ry]
 have reads:=V5 hp.2;rw [eJ] at reads;have gg:i<listed.size:=by rw [I.tk];exact dc
 have after:∀(fU:Nat) (dU:Fr) (au:Env) (x:Value) (w':World),fU ∈ ey->fU<=N->(∀k ok,ops[k]? =some ok->ee P ok=true->((k=i\/listed.getD k false=true)↔posOf aE k<fU))->
  (∀k ok,ops[k]? =some ok->gH ok=true->(k=i\/listed.getD k false=true)->posOf aE k<fU)->
  Holds aA dU es av aE (ke ops es av aE (listed.setIfInBounds i true) fU)->E.le au->Rel au e.v x->ba dU au (cg es av fU) w'->
  qY P aA ar ops es a_ av ey aE gz N D (listed.setIfInBounds i true) (a.put o.dst x) w':=by
  intro fU dU au x w' iU agw fs aeT afw hle ak agt
  refine ⟨by simp [I.tk],by cases h:o.dst<;>simp [Act.put,I.size],by cases h:o.dst<;>simp [Act.put,I.defers],fun k aB=>by
   rcases (fJ gg).1 aB with rfl | aB
   . exact Kk
   . exact I.uo k aB,?_,au,fU,dU,iR.trans hle,iU,agw,fun k ok aa ad=>by rw [fJ gg];exact fs k ok aa ad,
   fun k ok aa ad aH=>aeT k ok aa ad ((fJ gg).1 aH),afw,agt,fun t aG=>?_⟩
  . intro k ok cF aB bB et ah;rw [fJ gg] at aB ⊢;rcases yG k ok cF aB.symm bB et ah with h | h
    . exact .inr h
    . exact .inl h
  . by_cases aI:o.dst=some t
    . refine .inl ⟨i,o,e,by rw [fJ gg];exact .inl rfl,cA,aI,ry,?_⟩;have aS:t<a.tmps.size:=by
       have:=hp.1;rw [aI] at this;simp only [eO,arp,arS] at this;rw [I.size];exact this.1
      rw [aI];simp only [Act.put];rw [arQ,arN,arz rfl,arz aS];exact ak
    . have dP:(a.put o.dst x).tmps.getD t undef=a.tmps.getD t undef:=by
       cases af0:o.dst with
       | none=>rfl
       | some d=>
         simp only [Act.put];rw [arQ,arQ,arN,arw (fun e=>aI (by rw [af0,e]))]
      rw [dP];rcases wU t aG with ⟨k,ok,Ez,ck,cB,eL,kC,pH⟩ | ⟨ck,cB⟩
      . exact .inl ⟨k,ok,Ez,by rw [fJ gg];exact .inr ck,cB,eL,kC,Rel.mono hle _ _ pH⟩
      . refine .inr ⟨fun k ok aB bB=>?_,Rel.mono hle _ _ cB⟩;rw [fJ gg] at aB;rcases aB with rfl | aB
        . rw [cA] at bB;cases bB;exact aI
        . exact ck k ok aB bB
 have JX:¬(gH o=true/\Made es av aE i)->∀fU k,ke ops es av aE (listed.setIfInBounds i true) fU k↔ke ops es av aE listed fU k:=by
  intro bs fU k;constructor
  . rintro ⟨ok,al,ao,aK,bG⟩;exact ⟨ok,al,ao,fun h=>aK ((fJ gg).2 (.inr h)),bG⟩
  . rintro ⟨ok,al,ao,aK,bG⟩;refine ⟨ok,al,ao,fun h=>?_,bG⟩;rcases (fJ gg).1 h with rfl | h
    . rw [cA] at al;cases al;exact bs ao
    . exact aK h
 cases l5:eV P o.op with
 | true=>
   cases bs:gH o with
   | true=>
     have aS:posOf aE i<s:=by
      rcases asO (posOf aE i) s with h | h
      . exact h
      . have:=(level l5 h).2;rw [bs] at this;cases this
     by_cases hm:Made es av aE i
     case neg=>
      have KL:(cI P ar ops o).run (calls i) e.r (cg es av s)=.val e.v (cg es av s):=by
       rcases Q3 bs cV with ⟨cZ,b3,_⟩ | ⟨_,b3⟩
       . exact absurd (show Made es av aE i from by unfold Made;rw [b3,jZ];exact Nat.succ_ne_self _) hm
       . exact b3 _
      refine rh bF (cf i) (dL i) cA KL I.size reads rK fun au x w' al ao aK=>dO _ _ (after s F au x w' aU FG (fun k ok bB jJ=>?_) (fun k ok bB qe aB=>?_) (kn.congr fun k=>JX (fun h=>hm h.2) s k) al ao aK)
      . constructor
        . rintro (rfl | h)
          . rw [cA] at bB;cases bB;unfold ee at jJ;rw [bs] at jJ;simp at jJ
          . exact (mH k ok bB jJ).1 h
        . intro h;exact .inr ((mH k ok bB jJ).2 h)
      . rcases aB with rfl | aB
        . exact aS
        . exact cY k ok bB qe aB
     have mF:ke ops es av aE listed s i:=⟨o,cA,⟨bs,hm⟩,uO,aS⟩;have Km:(cg es av (posOf aE i+1)).next≠e.h.next:=by rw [<-jZ];exact hm
     have lG:nameAt es av aE i=az e.h.next:=by unfold nameAt;rw [jZ]
     have mN:=(kn.new i mF).1;have y8:=(kn.new i mF).2;have po:A1 es av aE i=(cg es av (posOf aE i+1)).get (az e.h.next):=by unfold A1;rw [lG]
     rw [lG,po] at mN;refine acp cA bs cV I.size reads rK Km mN fun au x w' al ao aK=>dO _ _ (after s (F.free (az e.h.next)) au x w' aU FG (fun k ok bB jJ=>?_) (fun k ok bB qe aB=>?_) ?_ al ao aK)
     . constructor
       . rintro (rfl | h)
         . rw [cA] at bB;cases bB;unfold ee at jJ;rw [bs] at jJ;simp at jJ
         . exact (mH k ok bB jJ).1 h
       . intro h;exact .inr ((mH k ok bB jJ).2 h)
     . rcases aB with rfl | aB
       . exact aS
       . exact cY k ok bB qe aB
     . have sub:∀k,ke ops es av aE (listed.setIfInBounds i true) s k->ke ops es av aE listed s k/\k≠i:=by
        rintro k ⟨ok,al,ao,aK,bG⟩;refine ⟨⟨ok,al,ao,fun h=>aK ((fJ gg).2 (.inr h)),bG⟩,fun e=>aK ((fJ gg).2 (.inl e))⟩
       refine ⟨kn.w,fun b ah=>?_,fun k aB=>?_,fun k br aB gn=>kn.inj k br (sub k aB).1 (sub br gn).1⟩
       . by_cases wv:b=az e.h.next
         . subst wv;simp only [Fr.free,ar2];rw [<-lG,y8]
         . simp only [Fr.free,arw wv];refine kn.bL b fun k aB=>?_;by_cases gD:k=i
           . subst gD;rw [lG];exact fun e=>wv e.symm
           . obtain ⟨ok,al,ao,aK,bG⟩:=aB;refine ah k ⟨ok,al,ao,fun h=>?_,bG⟩;rcases (fJ gg).1 h with h | h
             . exact gD h
             . exact aK h
       . obtain ⟨SW,gD⟩:=sub k aB;have c_:nameAt es av aE k≠az e.h.next:=fun e=>gD (kn.inj k i SW mF (by rw [e,lG]))
         simp only [Fr.free,arw c_];exact kn.new k SW
   | false=>
     have yK:ee P o=true:=by unfold ee;rw [l5,bs];rfl
     have uT:s<=posOf aE i:=by
      rcases asO (posOf aE i) s with h | h
      . exact absurd ((mH i o cA yK).2 h) uO
      . exact h
     have qm:=(level l5 uT).1;rw [<-jZ,<-qm] at cV;refine rh bF (cf i) (dL i) cA cV I.size reads rK fun au x w' al ao aK=>?_;rw [qm] at aK;have afL:∀k ok,ops[k]? =some ok->gH ok=true->posOf aE i+1<=posOf aE k->¬(listed.setIfInBounds i true).getD k false=true:=by
      intro k ok bB qe ag h;rcases (fJ gg).1 h with rfl | h
      . omega
      . have:=cY k ok bB qe h;omega
     have afy:Holds aA F es av aE (ke ops es av aE (listed.setIfInBounds i true) (posOf aE i+1)):=by
      refine kn.congr fun k=>?_;rw [JX (fun h=>by rw [bs] at h;cases h.1)];constructor
      . rintro ⟨ok,bN,z2,z3,z4⟩;refine ⟨ok,bN,z2,z3,?_⟩;have kp:=(art.1 bN).1;have:posOf aE k≠posOf aE i:=fun e=>by
         have:=C.xp kp dc e;subst this;rw [cA] at bN;cases bN;rw [bs] at z2;cases z2.1
        omega
      . rintro ⟨ok,bN,z2,z3,z4⟩;exact ⟨ok,bN,z2,z3,by omega⟩
     obtain ⟨fU,dU,g1,g2,g3,g4,g5,g6⟩:=C.advance (N - (posOf aE i+1)) (posOf aE i+1) (by omega) afL F afy aK;refine dO _ _ (after fU dU au x w' g1 g3 (fun k ok bB jJ=>?_) (fun k ok bB qe aB=>?_) g5 al ao g6)
     . have kp:=(art.1 bB).1;constructor
       . rintro (rfl | h)
         . omega
         . have:=(mH k ok bB jJ).1 h;omega
       . intro h;by_cases gD:k=i
         . exact .inl gD
         . refine .inr ((mH k ok bB jJ).2 ?_);rcases asO (posOf aE k) s with a8 | a8
           . exact a8
           . have c_:posOf aE k≠posOf aE i:=fun e=>gD (C.xp kp dc e);have:=g4 k ok bB jJ (by omega);omega
     . rcases aB with rfl | aB
       . omega
       . have:=cY k ok bB qe aB;omega
 | false=>
   have bs:gH o=false:=by
    cases h:gH o with
    | false=>rfl
    | true=>rw [ahi h] at l5;cases l5
   obtain ⟨c,aq,KL⟩:∃c,(gN P c/\g_ P c)/\(cI P ar ops o).run c e.r (cg es av s)=.val e.v (cg es av s):=by
    cases eA:looks o.op with
    | false=>exact ⟨_,⟨cf i,dL i⟩,(v_ l5 cV).2 eA _⟩
    | true=>
      obtain ⟨cF,al,ao⟩:=C.ask i o cA eA l5 Kk;rw [ry] at al;cases al
      obtain ⟨c,ab,aq,aK⟩:=ao s aU (Nk (by rw [Lz];simp) fun k mk ok aa ad=>by
       simp only [arV];have bB:ops[k]? =some ok:=by simpa using ad
       cases wL:ee P ok with
       | false=>rfl
       | true=>
         simp only [aru];cases rF:Nat.blt (posOf aE k) s with
         | true=>
           rw [arS] at rF;simp only [aru,aso];cases ah:fO mk i with
           | false=>rfl
           | true=>exact absurd (S3 k mk i aa ah ((mH k ok bB wL).2 rF)) uO
         | false=>
           have afJ:¬posOf aE k<s:=by rw [<-arS,rF];simp
           simp only [arB,aso,mI,ar0];cases ah:fO cS k with
           | false=>rfl
           | true=>
             by_cases gD:k=i
             . subst gD;rw [cA] at bB;cases bB;unfold ee at wL;rw [l5] at wL;cases wL
             . exact absurd ((mH k ok bB wL).1 (BD k gD ah)) afJ)
      rw [(v_ l5 aK).1] at aK;exact ⟨c,aq,aK⟩
   refine rh bF aq.1 aq.2 cA KL I.size reads rK fun au x w' al ao aK=>dO _ _ (after s F au x w' aU FG (fun k ok bB jJ=>?_) (fun k ok bB qe aB=>?_) (kn.congr fun k=>JX (fun h=>by rw [bs] at h;cases h.1) s k) al ao aK)
   . constructor
     . rintro (rfl | h)
       . rw [cA] at bB;cases bB;unfold ee at jJ;rw [l5] at jJ;cases jJ
       . exact (mH k ok bB jJ).1 h
     . intro h;exact .inr ((mH k ok bB jJ).2 h)
   . rcases aB with rfl | aB
     . rw [cA] at bB;cases bB;rw [bs] at qe;cases qe
     . exact cY k ok bB qe aB
theorem Q0 {D:List Deferred} {aA:Fr} (C:Cert P ar ops calls es a_ aY c4 av ey order aE N M lit) {gz:Env} (JF:N<=M) {listed:Array Bool} {a:Act} {w:World} (I:qY P aA ar ops es a_ av ey aE gz N D listed a w)
 (cY:∀k,k<ops.size->posOf aE k<N->listed.getD k false=true):∃au,gz.le au/\RegRel0 au ar c4 a/\a.defers=D/\ba aA au av w:=by
 obtain ⟨E,s,F,iR,aU,FG,mH,_,kn,rK,wU⟩:=I.main;have dJ:es[N]? =none:=arW (by rw [C.len];exact arv _);have yP:cg es av N=av:=by simp [cg,dJ]
 have Ti:eo es c4 N=c4:=by simp [eo,dJ]
 have qm:s=N:=by
  rcases C.WR s aU with (h | ⟨h,_⟩) | ⟨k,ok,b3,b5,dW⟩
  . have:=C.CG;omega
  . exact h
  . rcases asO s N with aS | iH
    . have:=(mH k ok b3 b5).1 (cY k (art.1 b3).1 (by omega));omega
    . omega
 subst qm;have hd:F=aA:=kn.none fun k aB=>by obtain ⟨ok,al,ao,aK,bG⟩:=aB;exact aK (cY k (art.1 al).1 bG)
 subst hd;rw [yP] at rK;have E7:∀k,posOf aE k<s->posOf aE k<M:=fun k h=>by omega
 refine ⟨E,iR,⟨I.size,fun t aG=>?_⟩,I.defers,rK⟩;have agH:∀(k br:Nat) (ok iu:Oper),ops[k]? =some ok->ops[br]? =some iu->posOf aE k<s->posOf aE br<s->ok.dst=some t->iu.dst=some t->k=br:=by
  intro k br ok iu aa ad cc cj aH bw;obtain ⟨mk,_,_,ag⟩:=C.nv k ok aa;obtain ⟨mk',_,im,_⟩:=ag (E7 k cc) br iu ad (E7 br cj);unfold pI at im;rw [hG] at im;by_cases ko:k=br
  . exact ko
  . rw [arw ko,bw,aH] at im;simp at im
 rcases C.Ms s (arv _) t aG with ⟨k,ok,Ez,al,ao,aK,bG,cK⟩ | ⟨al,ao⟩
 . rw [Ti] at cK;rcases wU t aG with ⟨br,iu,Jd,ck,cB,eL,kC,pH⟩ | ⟨ck,_⟩
   . have:=agH k br ok iu ao cB al (I.uo br ck) aK eL;subst this;rw [bG] at kC;cases kC;rw [cK];exact pH
   . exact absurd aK (ck k ok (cY k (art.1 ao).1 al) ao)
 . rw [Ti] at ao;rcases wU t aG with ⟨br,iu,Jd,ck,cB,eL,kC,pH⟩ | ⟨_,cB⟩
   . exact absurd eL (al br iu (I.uo br ck) cB)
   . rw [ao];exact cB
theorem Q8 {rd:Option Nat} {D:List Deferred} {aA:Fr} (bF:eg P) (cf:∀i,gN P (calls i)) (dL:∀i,g_ P (calls i)) (C:Cert P ar ops calls es a_ aY c4 av ey order aE N M false) {gz:Env} {Q:Exit->Act->World->Prop}
 (cD:N=ops.size->∀au bm w',gz.le au->RegRel0 au ar c4 bm->bm.defers=D->ba aA au av w'->Q .normal bm w')
 (gR:∀au bm w' x v ab,gz.le au->N<ops.size->ops.size<=M->(∃i0 gX,ops[i0]? =some gX/\posOf aE i0=N/\(cI P ar ops gX).run (calls i0) c4 av=.cP v ab)->RegRel0 au ar (pd a_ ops.toList) bm->bm.defers=D->Rel au v x->ba aA au ab w'->Q (.panic (qF x)) bm w')
 (dI:M<ops.size->∀(fuel:Nat) (listed:Array Bool) au bm w',(List.range ops.size).countP (fun i=>!listed.getD i false)<=fuel->listed.size=ops.size->q0 ops (fun k=>listed.getD k false=true)->(∀k,k<ops.size->(listed.getD k false=true↔posOf aE k<N))->
   gz.le au->RegRel0 au ar c4 bm->bm.defers=D->ba aA au av w'->wpAnyIn (ca rd) 0 P .any ops Q fuel listed bm w'):∀(fuel:Nat) (listed:Array Bool) (a:Act) (w:World),(List.range ops.size).countP (fun i=>!listed.getD i false)<=fuel->
 qY P aA ar ops es a_ av ey aE gz N D listed a w->wpAnyIn (ca rd) 0 P .any ops Q fuel listed a w:=by
 have done:∀(listed:Array Bool) (a:Act) (w:World),qY P aA ar ops es a_ av ey aE gz N D listed a w->Region.ready .any ops listed=[]->∀i,i<ops.size->listed.getD i false=true:=by
  intro listed a w I aD i
  induction i using Nat.strongRecOn with
  | _ i bc=>
    intro aw;cases gg:listed.getD i false with
    | true=>rfl
    | false=>
      exfalso;have cA:ops[i]? =some ops[i]:=arO aw;obtain ⟨cS,_,iI,_⟩:=C.nv i _ cA;have:i ∈ Region.ready .any ops listed:=by
       rw [mem_ready];refine ⟨?_,ops[i],cA,fun e he ah=>?_⟩
       . have cu:i<listed.size:=by rw [I.tk];exact aw
         rw [arQ,arO cu] at gg ⊢;exact gg
       . have aa:=arU.1 iI e (as2.2 he);rw [yb] at ah;rw [ah] at aa;simp only [Bool.not_true,atI,arS] at aa;exact bc e.on aa (by omega)
      rw [aD] at this;simp at this
 have JF:=C.US;have full:∀(listed:Array Bool) (a:Act) (w:World),qY P aA ar ops es a_ av ey aE gz N D listed a w->(∀k,k<ops.size->posOf aE k<N->listed.getD k false=true)->(N=ops.size\/(M<ops.size/\M=N))->
  ∃au,gz.le au/\RegRel0 au ar c4 a/\a.defers=D/\ba aA au av w:=fun _ _ _ I cY _=>Q0 C JF I cY
 have finish:∀(listed:Array Bool) (a:Act) (w:World),qY P aA ar ops es a_ av ey aE gz N D listed a w->Region.ready .any ops listed=[]->Q .normal a w:=by
  intro listed a w I aD;have cY:=done listed a w I aD;have JG:N=ops.size:=by
   rcases asO N ops.size with aS | iH
   . exfalso;obtain ⟨i,wJ,oC⟩:=C.lO N aS;have:=I.uo i (cY i wJ);omega
   . exact Nat.le_antisymm C.CG iH
  obtain ⟨au,g1,g2,g3,g4⟩:=full listed a w I (fun k aB _=>cY k aB) (.inl JG);exact cD JG au a w g1 g2 g3 g4
 intro fuel
 induction fuel with
 | zero=>
   intro listed a w aq I;have cY:∀i,i<ops.size->listed.getD i false=true:=by
    intro i aw;have aY:(List.range ops.size).countP (fun i=>!listed.getD i false)=0:=by omega
    rw [List.countP_eq_zero] at aY;simpa using aY i (asW.2 aw)
   have aD:Region.ready .any ops listed=[]:=by
    cases ay:Region.ready .any ops listed with
    | nil=>rfl
    | cons j ahq=>
      exfalso;have bp:j ∈ Region.ready .any ops listed:=by rw [ay];simp
      rw [mem_ready] at bp;obtain ⟨aa,o,ad,_⟩:=bp;have:=cY j (art.1 ad).1;rw [uz] at this;rw [arQ,this] at aa;simp at aa
   exact ⟨aD,finish listed a w I aD⟩
 | succ fuel bc=>
   intro listed a w aq I;by_cases rM:M<ops.size/\∀k,k<ops.size->posOf aE k<N->listed.getD k false=true
   . obtain ⟨wu,cY⟩:=rM;obtain ⟨au,g1,g2,g3,g4⟩:=full listed a w I cY (.inr ⟨wu,(C.tail wu).1⟩);exact dI wu (fuel+1) listed au a w aq I.tk I.down (fun k aB=>⟨I.uo k,cY k aB⟩) g1 g2 g3 g4
   have KG:∀i,i ∈ Region.ready .any ops listed->posOf aE i<M:=by
    intro i aw;have oC:=aw;rw [mem_ready] at oC;obtain ⟨aa,o,ad,wB⟩:=oC;have dc:i<ops.size:=(art.1 ad).1;rcases asO M ops.size with wu | wu
    . obtain ⟨E7,y0⟩:=C.tail wu;rcases asO (posOf aE i) N with aS | iH
      . omega
      . exfalso;refine rM ⟨wu,fun k aB Kc=>?_⟩;obtain ⟨cS,mI,_⟩:=C.nv i o ad;have ah:=y0 i o cS ad iH mI k aB Kc;have yG:q0 ops fun k=>listed.getD k false=true\/k=i:=by
         intro k ok e aB bB he ah;rcases aB with aB | rfl
         . exact .inl (I.down k ok e aB bB he ah)
         . rw [ad] at bB;cases bB;exact .inl (wB e (as2.1 he) (by rw [yb];exact ah))
        rcases Cz yG ops.toList [] (fun j=>by simp) (fun k m j aB=>by simp at aB) i cS k mI ah (.inr rfl) with h | h
        . exact h
        . subst h;omega
    . have:=(C.iv i dc).1;omega
   refine ⟨fun aD=>finish listed a w I aD,fun i aw=>?_⟩;refine Q9 bF cf dL C I aw (KG i aw) (fun h=>by cases h) (fun bm w' HJ=>bc _ bm w' ?_ HJ) gR;have oC:=aw;rw [mem_ready] at oC;obtain ⟨aa,o,ad,_⟩:=oC;have dc:i<ops.size:=(art.1 ad).1;have gg:i<listed.size:=by rw [I.tk];exact dc
   have uO:listed.getD i false=false:=by rw [arQ,arO gg] at aa ⊢;exact aa
   have:=Eo (fun k=>!listed.getD k false) (fun k=>!(listed.setIfInBounds i true).getD k false) (List.range ops.size)
    (fun k _ aB=>by
      simp only [aso] at aB ⊢;cases ay:listed.getD k false with
      | false=>rfl
      | true=>
        have:=(fJ (k:=k) gg).2 (.inr ay);rw [aB] at this;cases this)
    ⟨i,asW.2 dc,by simp [uO],by have:=(fJ (k:=i) gg).2 (.inl rfl);simp [this]⟩
   omega
theorem ae.set_comm (h:ae) {b bR:aM} (c_:b≠bR) (k br:b6):(h.set b k).set bR br=(h.set bR br).set b k:=by unfold ae.set;simp only;rw [T.put_comm _ _ _ _ _ _ (fun e=>c_ e.symm)]
theorem MP {o:Oper} {x:Operand} (h:tH o=some x):∃t y,o.op=.store t x y/\o.dst=none/\o.guard=none:=by
 unfold tH at h
 split at h
 case h_2=>cases h
 rename_i t Xy y aW
 split at h
 case h_2=>cases h
 rename_i aI
 split at h
 case h_2=>cases h
 rename_i aF;cases h;exact ⟨t,y,aW,aI,aF⟩
theorem ajR {h ab:ae} {b:aM} {off:Nat} {af:List V} (he:lay h b off af=some ab):∃k,ab=h.set b k/\∀H:ae,H.get b=h.get b->lay H b off af=some (H.set b k):=by
 unfold lay at he ⊢;cases aF:h.get b<;>rw [aF] at he<;>simp only [b6.on] at he<;>try (cases he;done)
 obtain ⟨aq,aa⟩:=eD he;cases aa;refine ⟨_,rfl,fun H mF=>?_⟩;rw [mF];simp only [b6.on,aq,aru]
theorem Q5 {all:Array Oper} {o:Oper} {x:Operand} {call:dT} {r:bI} {h ab:ae} {v:V} (ak:tH o=some x) (he:(cI P ar all o).run call r h=.val v ab):
 ∃b off k,(bV x).run (dt r (b1 all o))=.ptr b off/\ab=h.set b k/\∀H:ae,H.get b=h.get b->(cI P ar all o).run call r H=.val v (H.set b k):=by
 obtain ⟨t,y,aW,aI,aF⟩:=MP ak;obtain ⟨aa,ad⟩:=kO he;have key:cI P ar all o=⟨jb none (fh P o) (b1 all o)⟩:=by unfold cI;rw [show (eO ar o.dst&&iX (b1 all o))=true from by rw [aa,ad];rfl,aF];rfl
 rw [key] at he ⊢;simp only [jb] at he ⊢;have wy:∀H,(fh P o).run call (dt r (b1 all o)) H=gY .bad ((tG P t).run H ((bV x).run (dt r (b1 all o))) ((bV y).run (dt r (b1 all o)))):=by intro H;unfold fh;rw [aW]
 rw [wy] at he;cases aU:(tG P t).run h ((bV x).run (dt r (b1 all o))) ((bV y).run (dt r (b1 all o))) with
 | none=>rw [aU] at he;cases he
 | some aH=>
   rw [aU] at he;simp only [gY,a'.val.injEq] at he;obtain ⟨rfl,rfl⟩:=he;unfold tG at aU;cases aG:bd P t with
   | none=>rw [aG] at aU;cases aU
   | some aP=>
     rw [aG] at aU;simp only [xC] at aU;obtain ⟨b,off,ag,bw⟩:=zx aU;obtain ⟨aq,cM⟩:=eD bw;obtain ⟨k,b3,b5⟩:=ajR cM;refine ⟨b,off,k,ag,b3,fun H mF=>?_⟩;rw [wy];unfold tG;rw [aG];simp only [xC,ag,V.jh,aq,aru,b5 H mF,gY]
theorem zI {listed:Array Bool} (iI:∀i o,ops[i]? =some o->m' i o=true) (cu:listed.size=ops.size) (aD:Region.ready .any ops listed=[]):∀i,i<ops.size->listed.getD i false=true:=by
 intro i
 induction i using Nat.strongRecOn with
 | _ i bc=>
   intro aw;cases gg:listed.getD i false with
   | true=>rfl
   | false=>
     exfalso;have cA:ops[i]? =some ops[i]:=arO aw;have iI:=iI i _ cA;have:i ∈ Region.ready .any ops listed:=by
      rw [mem_ready];refine ⟨?_,ops[i],cA,fun e he ah=>?_⟩
      . have aU:i<listed.size:=by rw [cu];exact aw
        rw [arQ,arO aU] at gg ⊢;exact gg
      . have aa:=arU.1 iI e (as2.2 he);rw [yb] at ah;rw [ah] at aa;simp only [Bool.not_true,atI,arS] at aa;exact bc e.on aa (by omega)
     rw [aD] at this;simp at this
theorem xv {listed:Array Bool} {i:Nat} (apy:listed.size=ops.size) (aw:i ∈ Region.ready .any ops listed):i<ops.size/\¬listed.getD i false=true:=by rw [mem_ready] at aw;obtain ⟨aa,o,ad,_⟩:=aw;refine ⟨(art.1 ad).1,fun h=>?_⟩;rw [uz] at h;rw [arQ,h] at aa;simp at aa
theorem MW {rd:Option Nat} {aA:Fr} (bF:eg P) (cf:gN P call) (dL:g_ P call) (iI:∀i o,ops[i]? =some o->m' i o=true) {i:Nat} {o:Oper} (cA:ops[i]? =some o) (aI:o.dst=none) {r:bI} {h ab:ae} {v:V}
 (he:(cI P ar ops o).run call r h=.val v ab) {Q:Exit->Act->World->Prop} {E:Env} {a:Act} {w:World} (k:fg E ar r a) (s:ba aA E h w) (cD:∀au w',E.le au->ba aA au ab w'->Q .normal a w')
 {listed:Array Bool} (cu:listed.size=ops.size) (cY:∀j,j<ops.size->(listed.getD j false=true↔j≠i)) (fuel:Nat) (av:1<=fuel):wpAnyIn (ca rd) 0 P .any ops Q fuel listed a w:=by
 have dc:i<ops.size:=(art.1 cA).1;have gg:i<listed.size:=by rw [cu];exact dc
 cases fuel with
 | zero=>omega
 | succ fuel=>
   refine ⟨fun aD=>absurd (zI iI cu aD i dc) (fun h=>((cY i dc).1 h) rfl),fun j bp=>?_⟩;obtain ⟨qv,w5⟩:=xv cu bp;have BR:j=i:=by
    rcases Nat.decEq j i with c_ | he
    . exact absurd ((cY j qv).2 c_) w5
    . exact he
   subst BR;refine rh bF cf dL cA he k.size (fun t aG=>k.an t (ar7 (arU.1 (kO he).2 t aG))) s fun au x w' al ao aK=>?_;rw [aI];refine wpAnyIn_done ?_ (cD au w' al aK) fuel;cases aD:Region.ready .any ops (listed.setIfInBounds j true) with
   | nil=>rfl
   | cons m ms=>
     exfalso;have hm:m ∈ Region.ready .any ops (listed.setIfInBounds j true):=by rw [aD];simp
     obtain ⟨m1,m2⟩:=xv (by simp [cu]) hm;refine m2 ((fJ gg).2 ?_);by_cases S4:m=j
     . exact .inl S4
     . exact .inr ((cY m m1).2 S4)
theorem aod {rd:Option Nat} {aA:Fr} (bF:eg P) (cf:gN P call) (dL:g_ P call) (iI:∀i o,ops[i]? =some o->m' i o=true) {i j:Nat} {o p:Oper} (cA:ops[i]? =some o) (oD:ops[j]? =some p) (pr:i≠j) (aI:o.dst=none) (mN:p.dst=none)
 {r:bI} {h aa hX ad:ae} {v cl u fE:V} (he:(cI P ar ops o).run call r h=.val v aa) (ag:(cI P ar ops p).run call r aa=.val u ad) (gF:(cI P ar ops p).run call r h=.val fE hX) (et:(cI P ar ops o).run call r hX=.val cl ad)
 {Q:Exit->Act->World->Prop} {E:Env} {a:Act} {w:World} (k:fg E ar r a) (s:ba aA E h w) (cD:∀au w',E.le au->ba aA au ad w'->Q .normal a w')
 {listed:Array Bool} (cu:listed.size=ops.size) (cY:∀m,m<ops.size->(listed.getD m false=true↔(m≠i/\m≠j))) (fuel:Nat) (av:2<=fuel):wpAnyIn (ca rd) 0 P .any ops Q fuel listed a w:=by
 have dc:i<ops.size:=(art.1 cA).1;have BS:j<ops.size:=(art.1 oD).1;have k1:∀{q:Oper} {H ef:ae} {z:V},(cI P ar ops q).run call r H=.val z ef->∀t ∈ b1 ops q,Rel E (T.get .bad (az t) r) (a.tmps.getD t undef):=
  fun he t aG=>k.an t (ar7 (arU.1 (kO he).2 t aG))
 cases fuel with
 | zero=>omega
 | succ fuel=>
   refine ⟨fun aD=>absurd (zI iI cu aD i dc) (fun h=>((cY i dc).1 h).1 rfl),fun m hm=>?_⟩;obtain ⟨m1,m2⟩:=xv cu hm;have hY:m=i\/m=j:=by
    rcases Nat.decEq m i with c_ | he
    . rcases Nat.decEq m j with afW | ej
      . exact absurd ((cY m m1).2 ⟨c_,afW⟩) m2
      . exact .inr ej
    . exact .inl he
   rcases hY with rfl | rfl
   . refine rh bF cf dL cA he k.size (k1 he) s fun au x w' al ao aK=>?_;rw [aI];have gg:m<listed.size:=by rw [cu];exact dc
     refine MW bF cf dL iI oD mN ag (k.mono al) aK (fun bC bA ck cB=>cD bC bA (al.trans ck) cB) (by simp [cu]) (fun z bk=>?_) fuel (by omega);rw [fJ gg,cY z bk];constructor
     . rintro (rfl | h)
       . exact pr
       . exact h.2
     . intro h;by_cases Ca:z=m
       . exact .inl Ca
       . exact .inr ⟨Ca,h⟩
   . refine rh bF cf dL oD gF k.size (k1 gF) s fun au x w' al ao aK=>?_;rw [mN];have gg:m<listed.size:=by rw [cu];exact BS
     refine MW bF cf dL iI cA aI et (k.mono al) aK (fun bC bA ck cB=>cD bC bA (al.trans ck) cB) (by simp [cu]) (fun z bk=>?_) fuel (by omega);rw [fJ gg,cY z bk];constructor
     . rintro (rfl | h)
       . exact fun e=>pr e.symm
       . exact h.1
     . intro h;by_cases Ca:z=m
       . exact .inl Ca
       . exact .inr ⟨h,Ca⟩
theorem Xs {rd:Option Nat} {id:Nat} {a:Act} {w:World} {Q:Exit->Act->World->Prop} (hm:P.follows .mixedOrders=true)
 (h:wpAnyIn (ca rd) 0 P .any ops Q ops.size (Array.replicate ops.size false) a {w with drawn:=w.drawn+1}):(Code.region id ops true).wpIn (ca rd) 0 P Q a w:=by
 refine wpIn_region_draw fun t=>?_;rw [hm];exact wpAnyIn_sound _ _ _ _ _ h
theorem M1 {r a7:bI}:∀{rs:List Nat},(∀t ∈ rs,T.get .bad (az t) a7=T.get .bad (az t) r)->dt a7 rs=dt r rs
 | [],_=>rfl
 | t::bn,h=>by simp only [dt];rw [h t (by simp),M1 (rs:=bn) fun u hu=>h u (by simp [hu])]
theorem acn {all:Array Oper} {o:Oper} {call:dT} {r a7:bI} (h:∀t ∈ b1 all o,T.get .bad (az t) a7=T.get .bad (az t) r) (H:ae):(cI P ar all o).run call a7 H=(cI P ar all o).run call r H:=by
 unfold cI;cases aq:(eO ar o.dst&&iX (b1 all o)) with
 | false=>rfl
 | true=>
   simp only [aru];cases aF:o.guard with
   | none=>simp only [jb,M1 h]
   | some oI=>
     obtain ⟨j,want⟩:=oI;simp only;cases all[j]? with
     | none=>rfl
     | some g=>
       simp only;cases g.dst with
       | none=>rfl
       | some d=>
         simp only;cases (Nat.blt d ar&&Nat.ble d top) with
         | false=>rfl
         | true=>simp only [aru,jb,M1 h]
theorem aoc {rd:Option Nat} {aA:Fr} (bF:eg P) (cf:gN P call) (dL:g_ P call) (iI:∀i o,ops[i]? =some o->m' i o=true) {l i j:Nat} {b o p:Oper} (wN:ops[l]? =some b) (cA:ops[i]? =some o) (oD:ops[j]? =some p)
 (gg:l≠i) (sY:l≠j) (pr:i≠j) (aI:o.dst=none) (mN:p.dst=none) {r bH:bI} {h aa hX ad:ae} {z v cl u fE:V}
 (ah:∀H,(cI P ar ops b).run call r H=.val z H) (wT:bH=(fD b.dst).run r z) (yZ:∀t ∈ b1 ops p,T.get .bad (az t) bH=T.get .bad (az t) r)
 (he:(cI P ar ops o).run call bH h=.val v aa) (ag:(cI P ar ops p).run call bH aa=.val u ad) (gF:(cI P ar ops p).run call bH h=.val fE hX) (et:(cI P ar ops o).run call bH hX=.val cl ad)
 {Q:Exit->Act->World->Prop} {E:Env} {a:Act} {w:World} (k:fg E ar r a) (s:ba aA E h w) (cD:∀au bm w',E.le au->fg au ar bH bm->ba aA au ad w'->Q .normal bm w')
 {listed:Array Bool} (cu:listed.size=ops.size) (Bx:q0 ops fun k=>listed.getD k false=true) (agL:∀cS,(eK [] ops.toList)[i]? =some cS->fO cS l=true) (mI:∃cS,(eK [] ops.toList)[i]? =some cS)
 (cY:∀m,m<ops.size->(listed.getD m false=true↔(m≠l/\m≠i/\m≠j))) (fuel:Nat) (av:3<=fuel):wpAnyIn (ca rd) 0 P .any ops Q fuel listed a w:=by
 have je:l<ops.size:=(art.1 wN).1;have dc:i<ops.size:=(art.1 cA).1;have BS:j<ops.size:=(art.1 oD).1;have k1:∀{E:Env} {a:Act} {q:Oper} {R:bI} {H ef:ae} {z:V},fg E ar R a->(cI P ar ops q).run call R H=.val z ef->∀t ∈ b1 ops q,Rel E (T.get .bad (az t) R) (a.tmps.getD t undef):=
  fun k he t aG=>k.an t (ar7 (arU.1 (kO he).2 t aG))
 have UW:∀(L:Array Bool),(q0 ops fun k=>L.getD k false=true)->¬L.getD l false=true->i ∈ Region.ready .any ops L->False:=by
  intro L aey uN uL;rw [mem_ready] at uL;obtain ⟨_,b9,hq,wB⟩:=uL;rw [cA] at hq;cases hq;obtain ⟨cS,mI⟩:=mI;have yG:q0 ops fun k=>L.getD k false=true\/k=i:=by
   intro k ok e aB bB he ah;rcases aB with aB | rfl
   . exact .inl (aey k ok e aB bB he ah)
   . rw [cA] at bB;cases bB;exact .inl (wB e (as2.1 he) (by rw [yb];exact ah))
  rcases Cz yG ops.toList [] (fun j=>by simp) (fun k m j aB=>by simp at aB) i cS l mI (agL cS mI) (.inr rfl) with h | h
  . exact uN h
  . exact gg h
 have acs:∀m,m ∈ Region.ready .any ops listed->q0 ops fun k=>(listed.setIfInBounds m true).getD k false=true:=by
  intro m hm k ok e aB bB he ah;have oE:=hm;rw [mem_ready] at oE;obtain ⟨_,Va,S_,wB⟩:=oE;have Kp:m<listed.size:=by rw [cu];exact (art.1 S_).1
  rw [fJ Kp] at aB ⊢;rcases aB with rfl | aB
  . rw [S_] at bB;cases bB;exact .inr (wB e (as2.1 he) (by rw [yb];exact ah))
  . exact .inr (Bx k ok e aB bB he ah)
 cases fuel with
 | zero=>omega
 | succ fuel=>
   refine ⟨fun aD=>absurd (zI iI cu aD i dc) (fun h=>((cY i dc).1 h).2.1 rfl),fun m hm=>?_⟩;obtain ⟨m1,m2⟩:=xv cu hm;have hY:m=l\/m=j:=by
    rcases Nat.decEq m l with dp | aJ
    . rcases Nat.decEq m j with fZ | aR
      . rcases Nat.decEq m i with n3 | bP
        . exact absurd ((cY m m1).2 ⟨dp,n3,fZ⟩) m2
        . subst bP;exact (UW listed Bx (fun h=>((cY l je).1 h).1 rfl) hm).elim
      . exact .inr aR
    . exact .inl aJ
   rcases hY with rfl | rfl
   . -- p first
     have l6:m<listed.size:=by rw [cu];exact je
     refine rh bF cf dL wN (ah h) k.size (k1 k (ah h)) s fun au x w' al ao aK=>?_;have b3:fg au ar bH (a.put b.dst x):=by rw [wT];exact (k.mono al).put (kO (ah h)).1 ao
     refine aod bF cf dL iI cA oD pr aI mN he ag gF et b3 aK (fun bC bA ck cB=>cD bC _ bA (al.trans ck) (b3.mono ck) cB) (by simp [cu]) (fun y a6=>?_) fuel (by omega);rw [fJ l6,cY y a6];constructor
     . rintro (rfl | h)
       . exact ⟨gg,sY⟩
       . exact h.2
     . intro h;by_cases B':y=m
       . exact .inl B'
       . exact .inr ⟨B',h⟩
   . -- q first
     have l6:m<listed.size:=by rw [cu];exact BS
     have gG:(cI P ar ops p).run call r h=.val fE hX:=by rw [<-acn yZ];exact gF
     have aez:=acs m hm;refine rh bF cf dL oD gG k.size (k1 k gG) s fun au x w' al ao aK=>?_;rw [mN];have wW:(listed.setIfInBounds m true).size=ops.size:=by simp [cu]
     cases fuel with
     | zero=>omega
     | succ fuel=>
       refine ⟨fun aD=>absurd (zI iI wW aD i dc) (fun h=>?_),fun y a6=>?_⟩
       . rcases (fJ l6).1 h with e | h
         . exact pr e
         . exact ((cY i dc).1 h).2.1 rfl
       obtain ⟨du,e3⟩:=xv wW a6;have agU:y=l:=by
        rcases Nat.decEq y l with dp | aJ
        . rcases Nat.decEq y i with n3 | bP
          . exfalso;refine e3 ((fJ l6).2 ?_);by_cases B':y=m
            . exact .inl B'
            . exact .inr ((cY y du).2 ⟨dp,n3,B'⟩)
          . subst bP;refine (UW _ aez (fun h=>?_) a6).elim;rcases (fJ l6).1 h with e | h
            . exact sY e
            . exact ((cY l je).1 h).1 rfl
        . exact aJ
       subst agU;have br:=k.mono al;refine rh bF cf dL wN (ah hX) br.size (k1 br (ah hX)) aK fun bC eQ bA t1 t2 t3=>?_;have b3:fg bC ar bH (a.put b.dst eQ):=by rw [wT];exact (br.mono t1).put (kO (ah h)).1 t2
       have Kl:y < (listed.setIfInBounds m true).size:=by rw [wW];exact je
       refine MW bF cf dL iI cA aI et b3 t3 (fun e' nX ck cB=>cD e' _ nX (al.trans (t1.trans ck)) (b3.mono ck) cB) (by simp [cu]) (fun g aF=>?_) fuel (by omega);rw [fJ Kl,fJ l6,cY g aF];constructor
       . rintro (rfl | rfl | h)
         . exact gg
         . exact fun e=>pr e.symm
         . exact h.2.1
       . intro h;by_cases aJ:g=y
         . exact .inl aJ
         . by_cases aR:g=m
           . exact .inr (.inl aR)
           . exact .inr (.inr ⟨aJ,h,aR⟩)
theorem I8 {rd:Option Nat} {aA:Fr} {E:Env} {h:ae} {w:World} {id:Nat} (cN:P.follows .mixedOrders=true) (bF:eg P) (cf:gN P call) (dL:g_ P call) {r:bI} {a:Act}
 {Q:Exit->Act->World->Prop} (k:fg E ar r a) (s:ba aA E h w) {es:List eR} {eC:bI} {a8:ae} {order aE ey:List Nat} {N M:Nat} (C:Cert P ar ops (fun _=>call) es r h eC a8 ey order aE N M false)
 (cD:N=ops.size->∀au bm w',E.le au->fg au ar eC bm->ba aA au a8 w'->Q .normal bm w')
 (gR:∀au bm w' x v ab,E.le au->N<ops.size->ops.size<=M->(∃i0 gX,ops[i0]? =some gX/\posOf aE i0=N/\(cI P ar ops gX).run call eC a8=.cP v ab)->fg au ar (pd r ops.toList) bm->Rel au v x->ba aA au ab w'->Q (.panic (qF x)) bm w')
 (dI:M<ops.size->∀(fuel:Nat) (listed:Array Bool) au bm w',(List.range ops.size).countP (fun i=>!listed.getD i false)<=fuel->listed.size=ops.size->q0 ops (fun k=>listed.getD k false=true)->(∀k,k<ops.size->(listed.getD k false=true↔posOf aE k<N))->
   E.le au->fg au ar eC bm->ba aA au a8 w'->wpAnyIn (ca rd) 0 P .any ops Q fuel listed bm w'):
 (Code.region id ops true).wpIn (ca rd) 0 P Q a w:=by
 have dJ:∀k,¬(Array.replicate ops.size false).getD k false=true:=by
  intro k;rw [uz,Array.getElem?_replicate]
  split<;>simp
 have kn:Holds aA aA es a8 aE (ke ops es a8 aE (Array.replicate ops.size false) 0):=
  ⟨rfl,fun _ _=>rfl,fun k aB=>(by obtain ⟨_,_,_,_,aY⟩:=aB;omega),fun k br aB=>(by obtain ⟨_,_,_,_,aY⟩:=aB;omega)⟩
 obtain ⟨fU,dU,g1,g2,g3,g4,g5,g6⟩:=C.advance N 0 (by omega) (fun k o _ _ _=>dJ k) aA kn (E:=E) (w:={w with drawn:=w.drawn}) (by rw [C.aY];exact s.same rfl rfl rfl rfl);have kV:∀(au:Env) (bm:Act),E.le au->bm.defers=a.defers->∀(a7:bI),T.get .bad eN a7=T.get .bad eN r->lY au (T.get .bad eN a7) bm.defers:=fun au bm he aI a7 s6=>by rw [s6,aI];exact k.defers.mono he
 have Fk:T.get .bad eN eC=T.get .bad eN r:=by have:=C.I9 N (arv _);have Kv:es[N]? =none:=arW (by rw [C.len];exact arv _);simpa [eo,Kv] using this
 refine Xs cN (Q8 bF (fun _=>cf) (fun _=>dL) C (gz:=E) (D:=a.defers)
  (fun aV au bm w' al ao aK bG=>cD aV au bm w' al ⟨ao,kV au bm al aK eC Fk⟩ bG)
  (fun au bm w' x v ab al ao VV aK bG cK ev h6=>gR au bm w' x v ab al ao VV aK ⟨bG,kV au bm al cK _ EG⟩ ev h6)
  (fun g0 fuel listed au bm w' g1 g2 g3 g4 al ao aK bG=>dI g0 fuel listed au bm w' g1 g2 g3 g4 al ⟨ao,kV au bm al aK eC Fk⟩ bG) ops.size _ a _ ?_ ?_)
 . exact asq atA (by simp)
 . refine ⟨by simp,k.size,rfl,fun br aB=>absurd aB (dJ br),fun br o e aB=>absurd aB (dJ br),E,fU,dU,Env.le.refl E,g1,g3,fun br o aa ad=>⟨fun h=>absurd h (dJ br),fun h=>by have:=g4 br o aa ad (asP _);omega⟩,
    fun br o _ _ h=>absurd h (dJ br),g5,?_,fun t aG=>.inr ⟨fun br o aB=>absurd aB (dJ br),k.an t aG⟩⟩
   exact g6.same rfl rfl rfl rfl
theorem Vu {n:Nat} {order aE:List Nat} (hL:lP n order aE=true):order.length=n/\(∀k,k<n->posOf aE k<n/\order[posOf aE k]? =some k)/\∀p,p<n->∃i,i<n/\posOf aE i=p:=by
 unfold lP at hL;simp only [arp,arZ] at hL;obtain ⟨pt,yS,BX,BY⟩:=hL;refine ⟨pt,fun k aB=>?_,fun p ag=>?_⟩
 . have aF:aE[k]? =some (posOf aE k):=by
    unfold posOf;rw [ars (by omega)];rfl
   have:=vh BX aF;rw [arV] at this;exact ⟨by have:=(arL.1 this).1;omega,this⟩
 . have aF:order[p]? =some (order[p]'(by omega)):=ars (by omega);have:=vh BY aF;rw [arV] at this;refine ⟨order[p]'(by omega),by have:=(arL.1 this).1;omega,?_⟩;unfold posOf;rw [this];rfl
theorem aoa {order aE:List Nat} (av:C9 P ops order aE=true):3<=ops.size/\∀i o,ops[i]? =some o->∃cS,(eK [] ops.toList)[i]? =some cS/\m' i o=true/\
 (posOf aE i<ops.size-3->∀k ok,ops[k]? =some ok->posOf aE k<ops.size-3->∃mk,(eK [] ops.toList)[k]? =some mk/\pI i cS (b1 ops o) o.dst k mk ok (Nat.blt (posOf aE k) (posOf aE i))=true/\(eV P o.op=true->ee P ok=true->posOf aE k<posOf aE i->fO cS k=true))/\
 (¬posOf aE i<ops.size-3->Hj P ops order aE (ops.size-3) i cS o=true):=by
 unfold C9 at av;simp only [arp,arH] at av;refine ⟨av.1,fun i o aw=>?_⟩;obtain ⟨cS,aa,ad⟩:=qW av.2 i o (by simpa using aw);simp only [arV,arp] at ad;refine ⟨cS,aa,ad.1,fun aS k ok aB kp=>?_,fun iH=>?_⟩
 . have aH:=ad.2;rw [show Nat.blt (posOf aE i) (ops.size-3)=true from by rw [arS];exact aS] at aH;simp only [aru] at aH;obtain ⟨mk,b3,b5⟩:=qW aH k ok (by simpa using aB);simp only [arV] at b5;rw [show Nat.blt (posOf aE k) (ops.size-3)=true from by rw [arS];exact kp] at b5;simp only [aru,arp] at b5;refine ⟨mk,b3,b5.1,fun aJ aR aS=>?_⟩;have dW:=b5.2;rw [aJ,aR,ar8,show Nat.blt (posOf aE k) (posOf aE i)=true from by rw [arS];exact aS] at dW;exact dW
 . have aH:=ad.2;rw [show Nat.blt (posOf aE i) (ops.size-3)=false from by rw [<-ar4,arS];exact iH] at aH;exact aH
theorem aob {order aE:List Nat} {N i cS p:Nat} {o gw:Oper} (ag:order[N]? =some p) (l7:ops[p]? =some gw) (h:Hj P ops order aE N i cS o=true):
 (∀k,k<ops.size->posOf aE k<N->fO cS k=true)/\(posOf aE i=N->eV P o.op=false/\looks o.op=false)/\(posOf aE i≠N->∃x,tH o=some x)/\
 (posOf aE i=N+1->fO cS p=true)/\(posOf aE i=N+2->∀t ∈ b1 ops o,gw.dst≠some t):=by
 unfold Hj at h;rw [ag] at h;simp only [arp] at h;obtain ⟨⟨aa,ad⟩,aH,bw⟩:=h;refine ⟨fun k aB Kc=>?_,fun e=>?_,fun e=>?_,fun e=>?_,fun e t aG=>?_⟩
 . obtain ⟨mk,b3,b5⟩:=qW aa k ops[k] (by simp);simp only [arV] at b5;rw [show Nat.blt (posOf aE k) N=true from by rw [arS];exact Kc] at b5;exact b5
 . rw [hG,arz e] at ad;simpa using ad
 . rw [hG,arw e] at ad;exact Option.isSome_iff_exists.1 ad
 . rw [hG,arz e] at aH;exact aH
 . rw [hG,arz e,l7] at bw;simp only at bw;intro aI;rw [aI] at bw;simp only [aso] at bw;rw [show (b1 ops o).contains t=true from by simpa using aG] at bw;cases bw
theorem JV {es:List eR} {a8:ae} {N p:Nat} (ag:p<=N):cg (es.take N) (cg es a8 N) p=cg es a8 p:=by
 by_cases h:p<N
 . cases he:es[p]? with
   | some e=>simp [cg,h,he]
   | none=>
     have aV:es[N]? =none:=arW (by have:=List.getElem?_eq_none_iff.1 he;omega);simp [cg,h,he,aV]
 . have:p=N:=by omega
   subst this;simp [cg,List.getElem?_take]
theorem V9 {es:List eR} {eC:bI} {N p:Nat} (ag:p<=N):eo (es.take N) (eo es eC N) p=eo es eC p:=by
 by_cases h:p<N
 . cases he:es[p]? with
   | some e=>simp [eo,h,he]
   | none=>
     have aV:es[N]? =none:=arW (by have:=List.getElem?_eq_none_iff.1 he;omega);simp [eo,h,he,aV]
 . have:p=N:=by omega
   subst this;simp [eo,List.getElem?_take]
theorem Zh {order:List Nat} {es:List eR} {N i j:Nat} {o p:Oper} {e f:eR} {x y:Operand} (bs:D0 ops order es N=true) (aw:order[N]? =some i) (bp:order[N+1]? =some j) (cA:ops[i]? =some o) (oD:ops[j]? =some p)
 (he:es[N]? =some e) (av:es[N+1]? =some f) (ak:tH o=some x) (a6:tH p=some y) {b c:aM} {off k7:Nat} (ah:(bV x).run (dt e.r (b1 ops o))=.ptr b off) (aq:(bV y).run (dt f.r (b1 ops p))=.ptr c k7):b≠c:=by
 unfold D0 MQ at bs;simp only [aw,bp,cA,oD,he,av,ak,a6,ah,aq] at bs;intro h;subst h;rw [aM.Bh] at bs;cases bs
theorem acv {rd:Option Nat} {aA:Fr} {E:Env} {h:ae} {w:World} {id:Nat} (cN:P.follows .mixedOrders=true) (bF:eg P) (cf:gN P call) (dL:g_ P call) {r:bI} {a:Act} {order aE:List Nat} (hL:lP ops.size order aE=true) (hp:C9 P ops order aE=true)
 {Q:Exit->Act->World->Prop} (ag:oc aA E ar (Q .normal) Q (I7 ops order (fx P ar ops (hy ops order)) (sz P ar ops (eK [] ops.toList) aE (hN P aE 0 ops.toList) 0 ops.toList) call r h)) (k:fg E ar r a) (s:ba aA E h w):(Code.region id ops true).wpIn (ca rd) 0 P Q a w:=by
 obtain ⟨pt,iv,lO⟩:=Vu hL;obtain ⟨ad,hp⟩:=aoa hp;unfold I7 at ag;cases cE:(fx P ar ops (hy ops order)).run call r h with
 | fail=>rw [cE] at ag;exact ag.elim
 | cP _ _ _ _ _=>rw [cE] at ag;exact ag.elim
 | ok es eC a8=>
   rw [cE] at ag;simp only at ag;obtain ⟨N,aeN⟩:∃N,N=ops.size-3:=⟨_,rfl⟩;rw [<-aeN] at ag hp;cases ay:(D0 ops order es (N+1)&&(sz P ar ops (eK [] ops.toList) aE (hN P aE 0 ops.toList) 0 ops.toList).run call (es.take N) (cg es a8 N)) with
   | false=>rw [ay] at ag;exact ag.elim
   | true=>
     rw [ay] at ag;simp only [aru] at ag;simp only [arp] at ay;obtain ⟨Fa,BB⟩:=ay;obtain ⟨al,ao,aK,bG⟩:=vt cE;have hlen:es.length=ops.size:=by rw [al,qD,pt]
     have inj:∀i j,i<ops.size->j<ops.size->posOf aE i=posOf aE j->i=j:=by intro i j aw bp he;have a:=(iv i aw).2;have b:=(iv j bp).2;rw [he,b] at a;cases a;rfl
     obtain ⟨mR,uC,yH⟩:=lO N (by omega);obtain ⟨pz,yD,yE⟩:=lO (N+1) (by omega);obtain ⟨rO,wo,Bw⟩:=lO (N+2) (by omega);have BP:ops[mR]? =some ops[mR]:=arO uC;have Fq:ops[pz]? =some ops[pz]:=arO yD;have Fs:ops[rO]? =some ops[rO]:=arO wo;have KC:=(iv mR uC).2;have KA:=(iv pz yD).2;have KB:=(iv rO wo).2;rw [yH] at KC;rw [yE] at KA;rw [Bw] at KB;have y0:∀i o,ops[i]? =some o->¬posOf aE i<N->∃cS,(eK [] ops.toList)[i]? =some cS/\(∀k,k<ops.size->posOf aE k<N->fO cS k=true)/\(posOf aE i=N->eV P o.op=false/\looks o.op=false)/\(posOf aE i≠N->∃x,tH o=some x)/\
      (posOf aE i=N+1->fO cS mR=true)/\(posOf aE i=N+2->∀t ∈ b1 ops o,ops[mR].dst≠some t):=by
      intro i o aw iH;obtain ⟨cS,bN,_,_,z4⟩:=hp i o aw;exact ⟨cS,bN,aob KC BP (z4 iH)⟩
     obtain ⟨aqx,_,_,an_,_⟩:=y0 mR _ BP (by omega);obtain ⟨akv,S2,_,_,C8,aj,_⟩:=y0 pz _ Fq (by omega);obtain ⟨aqw,s0,_,_,z1,_,Mo⟩:=y0 rO _ Fs (by omega);obtain ⟨Ro,akq⟩:=an_ yH;obtain ⟨arf,KX⟩:=C8 (by omega);obtain ⟨arh,KY⟩:=z1 (by omega);have aj:=aj yE;have Mo:=Mo Bw;obtain ⟨Jc,e8,hs,Lg⟩:=bG _ _ (nQ KC BP);obtain ⟨wb,bE,a2,a3⟩:=bG _ _ (nQ KA Fq);obtain ⟨Rn,cc,cj,eI⟩:=bG _ _ (nQ KB Fs);obtain ⟨aq6,ark,alj,QS,apT⟩:=MP KX;obtain ⟨aq7,arl,aqL,QT,apU⟩:=MP KY;have dJ:es[N+2+1]? =none:=arW (by omega);have afK:cg es a8 (N+2+1)=a8:=by simp [cg,dJ]
     have am6:eo es eC (N+2+1)=eC:=by simp [eo,dJ]
     have aeM:cg es a8 N=Jc.h:=by simp [cg,e8]
     have amL:eo es eC N=Jc.r:=by simp [eo,e8]
     have aeK:cg es a8 (N+1)=wb.h:=by simp [cg,bE]
     have amJ:eo es eC (N+1)=wb.r:=by simp [eo,bE]
     have aeL:cg es a8 (N+1+1)=Rn.h:=by simp [cg,cc]
     have amK:eo es eC (N+1+1)=Rn.r:=by simp [eo,cc]
     rw [amJ] at Lg;rw [aeK] at hs;rw [QS,amK] at a3;rw [QT,am6] at eI;simp only [fD] at a3 eI;rw [aeL] at a2;rw [afK] at cj;obtain ⟨aeI,JE⟩:=v_ Ro hs;have JE:=JE akq;obtain ⟨Oy,aqM,ahs,al9,Wn,aoD⟩:=Q5 KX a2;obtain ⟨Iw,aqN,TO,al',anp,aoE⟩:=Q5 KY cj;have c_:Oy≠Iw:=Zh Fa KA KB Fq Fs bE cc KX KY al9 al';have JA:=aoE wb.h (by rw [Wn,ae.ea,arw c_]);have Bv:=aoD (wb.h.set Iw TO) (by rw [ae.ea,arw (fun e=>c_ e.symm)]);have ae5:(wb.h.set Iw TO).set Oy ahs=a8:=by rw [ae.set_comm _ (fun e=>c_ e.symm),<-Wn,<-anp]
     rw [ae5] at Bv;rw [a3] at JA cj;have wV:eC=wb.r:=eI.trans a3;have afT:∀m,m<ops.size->(posOf aE m<N↔(m≠mR/\m≠pz/\m≠rO)):=by
      intro m hm;have aql:=(iv m hm).1;constructor
      . intro h;exact ⟨fun e=>by subst e;omega,fun e=>by subst e;omega,fun e=>by subst e;omega⟩
      . rintro ⟨bT,dp,fZ⟩;have pY:posOf aE m≠N:=fun e=>bT (inj m mR hm uC (by rw [e,yH]));have bJ:posOf aE m≠N+1:=fun e=>dp (inj m pz hm yD (by rw [e,yE]));have bO:posOf aE m≠N+2:=fun e=>fZ (inj m rO hm wo (by rw [e,Bw]));omega
     have ae4:ee P ops[pz]=true:=by unfold ee gH;rw [alj];rfl
     have yZ:∀t ∈ b1 ops ops[rO],T.get .bad (az t) wb.r=T.get .bad (az t) Jc.r:=by intro t aG;have y2:t<=top:=ar7 (arU.1 (kO cj).2 t aG);rw [Lg,R9 (kO hs).1 y2,arw (Mo t aG)]
     have hZ:∀i o,ops[i]? =some o->posOf aE i<N->∃e,(es.take N)[posOf aE i]? =some e/\(cI P ar ops o).run call e.r e.h=.val e.v (cg (es.take N) (cg es a8 N) (posOf aE i+1))/\eo (es.take N) (eo es eC N) (posOf aE i+1)=(fD o.dst).run e.r e.v:=by
      intro i o aW aw;obtain ⟨e,bN,z2,z3⟩:=bG _ o (nQ (iv i (art.1 aW).1).2 aW);refine ⟨e,by simp [aw,bN],?_,?_⟩
      . rw [JV (by omega)];exact z2
      . rw [V9 (by omega)];exact z3
     have C:Cert P ar ops (fun _=>call) (es.take N) r h (eo es eC N) (cg es a8 N) (N::hN P aE 0 ops.toList) order aE N N false:=
      ⟨by simp [hlen];omega,by omega,arv _,iv,lO,by rw [JV (asP _)];exact ao,by rw [V9 (asP _)];exact aK,hZ,
        fun i o aW=>by
         obtain ⟨cS,bN,z2,z3,_⟩:=hp i o aW
         exact ⟨cS,bN,z2,fun aw k ok aB Kb=>by
          obtain ⟨mk,du,e3,y3⟩:=z3 aw k ok aB Kb
          exact ⟨mk,du,e3,fun a b c=>.inl (y3 a b c)⟩⟩,
        by simp,
        fun j o aa ad=>arT _ (by simpa using zf (aE:=aE) (i:=0) (j:=j) (l:=ops.toList) (by simpa using aa) ad),
        fun s aU=>by
         rcases arM.1 aU with rfl | aU
         . exact .inl (.inr ⟨rfl,rfl⟩)
         . rcases u6 aU with h | ⟨j,o,aa,ad,aH⟩
           . exact .inl (.inl (by simpa using h))
           . exact .inr ⟨j,o,by simpa using aa,ad,by simpa using aH⟩,
        fun j o aa ad aH bw=>by
         obtain ⟨e,g1,_⟩:=hZ j o aa bw;have Tn:=Ir BB j o (by simpa using aa) ad aH e (by simpa using g1);refine ⟨e,g1,fun s aU hm=>?_⟩;rcases arM.1 aU with rfl | aU
         . have nD:tm P (eK [] ops.toList) ops.toList aE j (((eK [] ops.toList)[j]?).getD 0) (s+1)=true:=by
            unfold tm at hm ⊢;refine Nk (by rw [Lz];simp) fun cZ mk ok du e3=>?_;obtain ⟨mk',bu,eQ⟩:=qW hm cZ ok e3;rw [du] at bu;cases bu;simp only [arV] at eQ ⊢;have bB:ops[cZ]? =some ok:=by simpa using e3
            have kp:=(art.1 bB).1;by_cases rF:posOf aE cZ=s
            . have:cZ=mR:=inj cZ mR kp uC (by rw [rF,yH]);subst this;rw [BP] at bB;cases bB;have afV:ee P ops[cZ]=false:=by unfold ee;rw [Ro];rfl
              rw [afV];rfl
            . have:Nat.blt (posOf aE cZ) (s+1)=Nat.blt (posOf aE cZ) s:=by
               rw [ass,arS,arS];omega
              rw [this];exact eQ
           have uL:s+1 ∈ hN P aE 0 ops.toList:=by rw [<-yE];simpa using zf (P:=P) (aE:=aE) (i:=0) (j:=pz) (l:=ops.toList) (by simp) ae4
           obtain ⟨ab,g3⟩:=Tn (s+1) uL (by simpa using nD);refine ⟨call,ab,⟨cf,dL⟩,?_⟩;have aJ:cg (es.take s) (cg es a8 s) (s+1)=cg es a8 s:=by have:(es.take s)[s+1]? =none:=arW (by simp;omega);simp only [cg,this]
           have aR:cg (es.take s) (cg es a8 s) s=cg es a8 s:=JV (arv _);rw [aJ] at g3;rw [aR];exact g3
         . obtain ⟨ab,g3⟩:=Tn s aU (by simpa using hm);exact ⟨call,ab,⟨cf,dL⟩,g3⟩,
        fun _=>⟨rfl,fun cZ ok mk aB iH Ko j bp BQ=>by obtain ⟨cS,bN,z2,_⟩:=y0 cZ ok aB (by omega);rw [Ko] at bN;cases bN;exact z2 j bp BQ⟩,
        fun aa ad=>by omega⟩
     refine I8 cN bF cf dL k s C (fun h=>by omega) (fun _ _ _ _ _ _ _ _ h=>by omega) (fun _ fuel listed au bm w' g1 g2 g3 g4 g5 g6 g7=>?_);rw [amL] at g6;rw [aeM] at g7;rw [aeI] at a2 JA Bv;refine aoc bF cf dL (fun i o aW=>by obtain ⟨cS,_,z2,_⟩:=hp i o aW;exact z2) BP Fq Fs (fun e=>by rw [e] at yH;omega) (fun e=>by rw [e] at yH;omega) (fun e=>by rw [e] at yE;omega) QS QT
      JE Lg yZ a2 cj JA Bv g6 g7 (fun bC a2 bA ck cB eL=>ag bC a2 bA (g5.trans ck) (by rw [wV];exact cB) eL) g2 g3 (fun cS mI=>by rw [S2] at mI;cases mI;exact aj) ⟨akv,S2⟩ (fun m hm=>(g4 m hm).trans (afT m hm)) fuel ?_
     have IV:∀(L:Array Bool) (x:Nat),L.size=ops.size->x<ops.size->¬L.getD x false=true->(List.range ops.size).countP (fun k=>!(L.setIfInBounds x true).getD k false) < (List.range ops.size).countP (fun k=>!L.getD k false):=by
      intro L x c' ak aV;have y':x<L.size:=by rw [c'];exact ak
      refine Eo (fun k=>!L.getD k false) (fun k=>!(L.setIfInBounds x true).getD k false) (List.range ops.size) (fun k _ aB=>?_) ⟨x,asW.2 ak,?_,?_⟩
      . simp only [aso] at aB ⊢;cases ay:L.getD k false with
        | false=>rfl
        | true=>
          have:=(fJ (k:=k) y').2 (.inr ay);rw [aB] at this;cases this
      . cases ay:L.getD x false with
        | false=>rfl
        | true=>exact absurd ay aV
      . have:=(fJ (k:=x) y').2 (.inl rfl);simp [this]
     have akX:¬listed.getD mR false=true:=fun h=>by have:=(g4 mR uC).1 h;omega
     have akT:¬listed.getD pz false=true:=fun h=>by have:=(g4 pz yD).1 h;omega
     have akU:¬listed.getD rO false=true:=fun h=>by have:=(g4 rO wo).1 h;omega
     have bJ:=IV listed mR g2 uC akX
     have bO:=IV (listed.setIfInBounds mR true) pz (by simp [g2]) yD (fun h=>by
      rcases (fJ (by rw [g2];exact uC)).1 h with e | h
      . rw [e] at yE;omega
      . exact akT h)
     have c3:=IV ((listed.setIfInBounds mR true).setIfInBounds pz true) rO (by simp [g2]) wo (fun h=>by
      rcases (fJ (by simp [g2];exact yD)).1 h with e | h
      . rw [e] at Bw;omega
      . rcases (fJ (by rw [g2];exact uC)).1 h with e | h
        . rw [e] at Bw;omega
        . exact akU h)
     omega
end
section
variable {P:Program} {ar:Nat} {ops:Array Oper} {call:dT}
inductive pP {α β:Type} (R:α->β->Prop):List α->List β->Prop
 | nil:pP R [] []
 | cons {a:α} {b:β} {Lt:List α} {Lu:List β} (h:R a b) (t:pP R Lt Lu):pP R (a::Lt) (b::Lu)
def xu (ops:Array Oper) (t:Nat) (listed:Array Bool):Option Nat:=(Region.ready .any ops listed)[t % (Region.ready .any ops listed).length]?
theorem go_succ (fuel t:Nat) (listed:Array Bool):Region.linearise.go .any ops (fuel+1) t listed []=match xu ops t listed with
 | some i=>i::Region.linearise.go .any ops fuel (t / (Region.ready .any ops listed).length) (listed.setIfInBounds i true) []
 | none=>[]:=by
 simp only [Region.linearise.go]
 change (match (Region.ready .any ops listed)[t % (Region.ready .any ops listed).length]? with
  | some i=>Region.linearise.go .any ops fuel (t / (Region.ready .any ops listed).length) (listed.setIfInBounds i true) [i]
  | none=>[].reverse)=_
 unfold xu;cases (Region.ready .any ops listed)[t % (Region.ready .any ops listed).length]? with
 | none=>rfl
 | some i=>
   simp only;rw [linearise_go_acc,List.reverse_singleton,List.singleton_append]
theorem V6 {t:Nat} {listed:Array Bool} (h:xu ops t listed=none):Region.ready .any ops listed=[]:=by
 unfold xu at h;cases aD:Region.ready .any ops listed with
 | nil=>rfl
 | cons x xs=>
   rw [aD] at h;have aS:t % (x::xs).length < (x::xs).length:=Nat.mod_lt _ (by simp);rw [ars aS] at h;cases h
theorem Mr {t i:Nat} {listed:Array Bool} (h:xu ops t listed=some i):i ∈ Region.ready .any ops listed:=arX h
theorem count_set {listed:Array Bool} {i:Nat} (cu:listed.size=ops.size) (aw:i<ops.size) (aV:¬listed.getD i false=true):
 (List.range ops.size).countP (fun k=>!(listed.setIfInBounds i true).getD k false) < (List.range ops.size).countP (fun k=>!listed.getD k false):=by
 have ax:i<listed.size:=by rw [cu];exact aw
 refine Eo (fun k=>!listed.getD k false) (fun k=>!(listed.setIfInBounds i true).getD k false) (List.range ops.size) (fun k _ aB=>?_) ⟨i,asW.2 aw,?_,?_⟩
 . simp only [aso] at aB ⊢;cases ay:listed.getD k false with
   | false=>rfl
   | true=>
     have:=(fJ (k:=k) ax).2 (.inr ay);rw [aB] at this;cases this
 . cases ay:listed.getD i false with
   | false=>rfl
   | true=>exact absurd ay aV
 . have:=(fJ (k:=i) ax).2 (.inl rfl);simp [this]
theorem R_ (iI:∀i o,ops[i]? =some o->m' i o=true):∀(fuel t:Nat) (listed:Array Bool),listed.size=ops.size->(List.range ops.size).countP (fun i=>!listed.getD i false)<=fuel->
 (Region.linearise.go .any ops fuel t listed []).Nodup/\(∀k ∈ Region.linearise.go .any ops fuel t listed [],k<ops.size/\¬listed.getD k false=true)/\
  ∀k,k<ops.size->listed.getD k false=true\/k ∈ Region.linearise.go .any ops fuel t listed []
 | 0,t,listed,cu,aq=>by
   have e:Region.linearise.go .any ops 0 t listed []=[]:=rfl;rw [e];refine ⟨List.nodup_nil,fun k aB=>by simp at aB,fun k aB=>.inl ?_⟩;have aY:(List.range ops.size).countP (fun i=>!listed.getD i false)=0:=by omega
   rw [List.countP_eq_zero] at aY;simpa using aY k (asW.2 aB)
 | fuel+1,t,listed,cu,aq=>by
   rw [go_succ];cases aD:xu ops t listed with
   | none=>
     simp only;exact ⟨List.nodup_nil,fun k aB=>by simp at aB,fun k aB=>.inl (zI iI cu (V6 aD) k aB)⟩
   | some i=>
     simp only;obtain ⟨i1,i2⟩:=xv cu (Mr aD);have ax:i<listed.size:=by rw [cu];exact i1
     have:=count_set cu i1 i2;obtain ⟨g1,g2,g3⟩:=R_ iI fuel (t / (Region.ready .any ops listed).length) (listed.setIfInBounds i true) (by simp [cu]) (by omega);refine ⟨atr.2 ⟨fun hm=>(g2 i hm).2 ((fJ ax).2 (.inl rfl)),g1⟩,fun k aB=>?_,fun k aB=>?_⟩
     . rcases arM.1 aB with rfl | aB
       . exact ⟨i1,i2⟩
       . exact ⟨(g2 k aB).1,fun h=>(g2 k aB).2 ((fJ ax).2 (.inr h))⟩
     . rcases g3 k aB with h | h
       . rcases (fJ ax).1 h with rfl | h
         . exact .inr (by simp)
         . exact .inl h
       . exact .inr (by simp [h])
theorem He {o:Oper} {os:List Oper} {r:bI} {h:ae} {es:List eR} {c4:bI} {av:ae} (he:(fx P ar ops (o::os)).run call r h=.ok es c4 av):
 ∃v aa hJ,(cI P ar ops o).run call r h=.val v aa/\(fx P ar ops os).run call ((fD o.dst).run r v) aa=.ok hJ c4 av/\es=⟨r,h,v⟩::hJ:=by
 simp only [fx,C7] at he;cases aa:(cI P ar ops o).run call r h with
 | fail=>rw [aa] at he;cases he
 | cP _ _=>rw [aa] at he;simp only at he;cases hm:mc o.op<;>rw [hm] at he<;>cases he
 | val v a8=>
   rw [aa] at he;simp only at he;cases ad:(fx P ar ops os).run call ((fD o.dst).run r v) a8 with
   | fail=>rw [ad] at he;cases he
   | cP _ _ _ _ _=>rw [ad] at he;cases he
   | ok hJ bH aH=>
     rw [ad] at he;simp only [qZ.ok.injEq] at he;obtain ⟨rfl,rfl,rfl⟩:=he;exact ⟨v,a8,hJ,rfl,ad,rfl⟩
theorem Hf {o:Oper} {os:List Oper} {r:bI} {h aa:ae} {v:V} {hJ:List eR} {c4:bI} {av:ae} (aY:(cI P ar ops o).run call r h=.val v aa) (ad:(fx P ar ops os).run call ((fD o.dst).run r v) aa=.ok hJ c4 av):
 (fx P ar ops (o::os)).run call r h=.ok (⟨r,h,v⟩::hJ) c4 av:=by
 simp only [fx,C7,aY,ad]
theorem MN:∀(e8 hs:List Oper) {r:bI} {h:ae} {es:List eR} {c4:bI} {av:ae},(fx P ar ops (e8++hs)).run call r h=.ok es c4 av->
 ∃hJ bH aa rk,(fx P ar ops e8).run call r h=.ok hJ bH aa/\(fx P ar ops hs).run call bH aa=.ok rk c4 av/\es=hJ++rk
 | [],hs,r,h,es,c4,av,he=>⟨[],r,h,es,rfl,he,rfl⟩
 | o::os,hs,r,h,es,c4,av,he=>by obtain ⟨v,aa,hJ,al,ao,rfl⟩:=He he;obtain ⟨Jk,bH,aH,rk,g1,g2,rfl⟩:=MN os hs ao;exact ⟨⟨r,h,v⟩::Jk,bH,aH,rk,Hf al g1,g2,rfl⟩
theorem MO:∀(e8 hs:List Oper) {r bH c4:bI} {h aa av:ae} {hJ rk:List eR},(fx P ar ops e8).run call r h=.ok hJ bH aa->(fx P ar ops hs).run call bH aa=.ok rk c4 av->
 (fx P ar ops (e8++hs)).run call r h=.ok (hJ++rk) c4 av
 | [],hs,r,bH,c4,h,aa,av,hJ,rk,he,ad=>by simp only [fx,qZ.ok.injEq] at he;obtain ⟨rfl,rfl,rfl⟩:=he;exact ad
 | o::os,hs,r,bH,c4,h,aa,av,hJ,rk,he,ad=>by obtain ⟨v,aH,Jk,al,ao,rfl⟩:=He he;exact Hf al (MO os hs ao ad)
theorem CL:∀(a b:List Nat),hy ops (a++b)=hy ops a++hy ops b
 | [],b=>rfl
 | x::xs,b=>by simp [hy,CL xs b]
theorem VX:∀(l:List Oper),(∀o ∈ l,eV P o.op=false/\looks o.op=false)->∀{r c4:bI} {h av:ae} {es:List eR},(fx P ar ops l).run call r h=.ok es c4 av->
 av=h/\∀H:ae,∃fA,(fx P ar ops l).run call r H=.ok fA c4 H
 | [],_,r,c4,h,av,es,he=>by simp only [fx,qZ.ok.injEq] at he;obtain ⟨rfl,rfl,rfl⟩:=he;exact ⟨rfl,fun H=>⟨[],rfl⟩⟩
 | o::os,ay,r,c4,h,av,es,he=>by obtain ⟨v,aa,hJ,al,ao,rfl⟩:=He he;obtain ⟨aJ,aR⟩:=ay o (by simp);obtain ⟨d1,d2⟩:=v_ aJ al;subst d1;obtain ⟨g1,g2⟩:=VX os (fun b9 hq=>ay b9 (by simp [hq])) ao;refine ⟨g1,fun H=>?_⟩;obtain ⟨fA,g3⟩:=g2 H;exact ⟨_,Hf (d2 aR H) g3⟩
theorem Ce {o:Oper} {A:xQ} (h:l9 o=some A):o.op=.insert A.t A.m A.k A.x/\o.dst=none/\o.guard=none:=by
 unfold l9 at h
 split at h
 case h_2=>cases h
 rename_i t m k x aW
 split at h
 case h_2=>cases h
 rename_i aI
 split at h
 case h_2=>cases h
 rename_i aF;cases h;exact ⟨aW,aI,aF⟩
theorem VP {e:dN} {k v:V} {c:Nat}:∀{es:List b_},(∀m ∈ es,e.run k m.k=some false)->k_ e k v c es=some (es++[⟨k,v,c⟩],true)
 | [],_=>rfl
 | m::ms,h=>by simp only [k_,h m (by simp),arB,VP (es:=ms) fun dj nD=>h dj (by simp [nD]),arR]
theorem aco {o:Oper} {A:xQ} (yQ:Cl P A.t=true) (lA:l9 o=some A) {r:bI} {H1 cX:ae} {v:V} (he:(cI P ar ops o).run call r H1=.val v cX) {b:aM} (ah:(bV A.m).run (dt r (b1 ops o))=.map b):
 ∀(H:ae) es c,H.get b=.mp es c->(∀m ∈ es,(u4 P A.t).run ((bV A.k).run (dt r (b1 ops o))) m.k=some false)->
  (cI P ar ops o).run call r H=.val .bad (H.set b (.mp (es++[⟨(bV A.k).run (dt r (b1 ops o)),(bV A.x).run (dt r (b1 ops o)),c⟩]) (c+1))):=by
 obtain ⟨aW,aI,aF⟩:=Ce lA;obtain ⟨aa,ad⟩:=kO he;have key:cI P ar ops o=⟨jb none (fh P o) (b1 ops o)⟩:=by unfold cI;rw [show (eO ar o.dst&&iX (b1 ops o))=true from by rw [aa,ad];rfl,aF];rfl
 rw [key] at he ⊢;simp only [jb] at he ⊢;have wy:∀H,(fh P o).run call (dt r (b1 ops o)) H=gY .bad ((pO P A.t).run H (.map b) ((bV A.k).run (dt r (b1 ops o))) ((bV A.x).run (dt r (b1 ops o)))):=by intro H;unfold fh;rw [aW];simp only [ah]
 rw [wy] at he;have agI:pO P A.t=⟨kc (u4 P A.t)⟩:=by
  cases aU:(pO P A.t).run H1 (.map b) ((bV A.k).run (dt r (b1 ops o))) ((bV A.x).run (dt r (b1 ops o))) with
  | none=>rw [aU] at he;cases he
  | some aH=>
    unfold pO at aU ⊢;unfold u4;cases aG:bd P A.t with
    | none=>rw [aG] at aU;cases aU
    | some aP=>
      rw [aG] at aU;simp only at aU ⊢;cases bW:aP.bl<;>rw [bW] at aU<;>simp only at aU ⊢<;>try (cases aU;done)
      rename_i di kP;cases nB:bd P di with
      | none=>rw [nB] at aU;cases aU
      | some gp=>
        rw [nB] at aU;simp only at aU ⊢;cases av:k2 gp.bl with
        | false=>
          unfold Cl at yQ;rw [aG] at yQ;simp only [bW,nB,av] at yQ;cases yQ
        | true=>rfl
 intro H es c mF aB;rw [wy,agI];simp only [kc,mF,b6.hQ,VP aB,gY,aru]
theorem ahg {o:Oper} {r:bI} {b:aM} {m:b_} (h:u2 ops r b o=some m):∃A,l9 o=some A/\(bV A.m).run (dt r (b1 ops o))=.map b/\m.k=(bV A.k).run (dt r (b1 ops o))/\m.v=(bV A.x).run (dt r (b1 ops o)):=by
 unfold u2 at h;cases bs:l9 o with
 | none=>rw [bs] at h;cases h
 | some A=>
   rw [bs] at h;simp only at h;cases hm:(bV A.m).run (dt r (b1 ops o))<;>rw [hm] at h<;>simp only at h<;>try (cases h;done)
   obtain ⟨aq,aa⟩:=eD h;have:=aM.mE aq;subst this;cases aa;exact ⟨A,rfl,hm,rfl,rfl⟩
def lo (ops:Array Oper) (r:bI) (b:aM) (i:Nat) (m:b_):Prop:=∃o,ops[i]? =some o/\u2 ops r b o=some m
theorem lo.I4 {r:bI} {b:aM} {i:Nat} {m dj:b_} (h:lo ops r b i m) (ab:lo ops r b i dj):m=dj:=by obtain ⟨o,aa,ad⟩:=h;obtain ⟨b9,aH,bw⟩:=ab;rw [aa] at aH;cases aH;rw [ad] at bw;cases bw;rfl
theorem FU {r:bI} {b:aM}:∀{is:List Nat} {ms:List b_},w4 ops r b is=some ms->pP (lo ops r b) is ms
 | [],ms,h=>by simp only [w4,arq] at h;subst h;exact .nil
 | i::is,ms,h=>by
   simp only [w4] at h;cases aW:ops[i]? with
   | none=>rw [aW] at h;cases h
   | some o=>
     rw [aW] at h;simp only at h;cases hm:u2 ops r b o with
     | none=>rw [hm] at h;cases h
     | some m=>
       rw [hm] at h;simp only at h;cases aU:w4 ops r b is with
       | none=>rw [aU] at h;cases h
       | some aqz=>
         rw [aU] at h;simp only [arq] at h;subst h;exact .cons ⟨o,aW,hm⟩ (FU aU)
theorem TL {x:Option Bool} (h:isFalse x=true):x=some false:=by
 cases x with
 | none=>cases h
 | some b=>cases b<;>simp_all [isFalse]
theorem Ii {e:dN} {m:b_}:∀{ms:List b_},D1 e m ms=true->∀dj ∈ ms,e.run m.k dj.k=some false/\e.run dj.k m.k=some false
 | [],_,dj,h=>by simp at h
 | x::xs,h,dj,hm=>by
   simp only [D1,arp] at h;rcases arM.1 hm with rfl | hm
   . exact ⟨TL h.1,TL h.2.1⟩
   . exact Ii h.2.2 dj hm
theorem Oc {r:bI} {b:aM} {e:dN}:∀{is:List Nat} {ms:List b_},pP (lo ops r b) is ms->is.Nodup->AS e ms=true->∀i j m dj,i ∈ is->j ∈ is->i≠j->lo ops r b i m->lo ops r b j dj->e.run m.k dj.k=some false
 | _,_,.nil,_,_,i,_,_,_,aw,_,_,_,_=>by simp at aw
 | _,_,.cons (a:=x) (b:=en) (Lt:=xs) (Lu:=akS) aY aG,aV,bs,i,j,m,dj,aw,bp,pr,hm,nD=>by
   simp only [AS,arp] at bs;rw [atr] at aV;have TB:∀k n,k ∈ xs->lo ops r b k n->n ∈ akS:=by
    intro k n aB afH;have gen:∀{is:List Nat} {ms:List b_},pP (lo ops r b) is ms->k ∈ is->n ∈ ms:=by
     intro is ms av
     induction av with
     | nil=>intro aB;simp at aB
     | cons aa _ bc=>
       intro aB;rcases arM.1 aB with rfl | aB
       . rw [afH.I4 aa];simp
       . exact arT _ (bc aB)
    exact gen aG aB
   rcases arM.1 aw with SU | aw
   . rcases arM.1 bp with J_ | bp
     . exact absurd (SU.trans J_.symm) pr
     . rw [SU] at hm;rw [hm.I4 aY];exact (Ii bs.1 dj (TB j dj bp nD)).1
   . rcases arM.1 bp with J_ | bp
     . rw [J_] at nD;rw [nD.I4 aY];exact (Ii bs.1 m (TB i m aw hm)).2
     . exact Oc aG aV.2 bs.2 i j m dj aw bp pr hm nD
theorem K5 {jn:bI} {b:aM} {e:dN} {I:List Nat} (oA:∀i ∈ I,∃o A m,ops[i]? =some o/\l9 o=some A/\(Cl P A.t=true/\u4 P A.t=e)/\u2 ops jn b o=some m/\∃v H1 cX,(cI P ar ops o).run call jn H1=.val v cX)
 (E_:∀i j m dj,i ∈ I->j ∈ I->i≠j->lo ops jn b i m->lo ops jn b j dj->e.run m.k dj.k=some false):
 ∀(τ:List Nat) (done:List Nat) (ds:List b_) (c:Nat) (H:ae),(∀i ∈ τ,i ∈ I)->(∀i ∈ done,i ∈ I)->(done++τ).Nodup->(∀m ∈ ds,∃i ∈ done,∃dj,lo ops jn b i dj/\m.k=dj.k)->H.get b=.mp ds c->
  ∃es ms fz ef,(fx P ar ops (hy ops τ)).run call jn H=.ok es jn ef/\ef.get b=.mp (ds++ms) fz/\(∀k,b≠k->ef.get k=H.get k)/\(∀k,ef.set b k=H.set b k)/\(∀e ∈ es,∀k,b≠k->e.h.get k=H.get k)/\
   pP (fun i (m:b_)=>∃dj,lo ops jn b i dj/\m.k=dj.k/\m.v=dj.v) τ ms
 | [],done,ds,c,H,_,_,_,_,mF=>⟨[],[],c,H,rfl,by rw [asS];exact mF,fun _ _=>rfl,fun _=>rfl,fun e he=>by simp at he,.nil⟩
 | i::τ,done,ds,c,H,FM,SG,ps,uG,mF=>by
   obtain ⟨o,A,m,aW,lA,⟨yQ,wL⟩,hm,v,H1,cX,cV⟩:=oA i (FM i (by simp));obtain ⟨i_,Sr,ah,aB,ak⟩:=ahg hm;rw [lA] at Sr;cases Sr;have rH:i ∉ done:=fun h=>by rw [atE] at ps;exact ps.2.2 i h i (by simp) rfl
   have hZ:=aco yQ lA cV ah H ds c mF (fun dj nD=>by
    obtain ⟨j,bp,akL,afk,afG⟩:=uG dj nD;rw [afG,wL,<-aB]
    exact E_ i j m akL (FM i (by simp)) (SG j bp) (fun e=>rH (e ▸ bp)) ⟨o,aW,hm⟩ afk)
   obtain ⟨_,aI,_⟩:=Ce lA;obtain ⟨es,ms,fz,ef,g1,g2,g3,g4,g6,g5⟩:=K5 oA E_ τ (done++[i]) (ds++[⟨(bV A.k).run (dt jn (b1 ops o)),(bV A.x).run (dt jn (b1 ops o)),c⟩]) (c+1)
    (H.set b (.mp (ds++[⟨(bV A.k).run (dt jn (b1 ops o)),(bV A.x).run (dt jn (b1 ops o)),c⟩]) (c+1))) (fun j bp=>FM j (by simp [bp]))
    (fun j bp=>by
      rcases asX.1 bp with h | h
      . exact SG j h
      . simp only [asl] at h;subst h;exact FM j (by simp)) (by simpa using ps)
    (fun dj nD=>by
      rcases asX.1 nD with h | h
      . obtain ⟨j,bp,r⟩:=uG dj h;exact ⟨j,by simp [bp],r⟩
      . simp only [asl] at h;subst h
        exact ⟨i,by simp,m,⟨o,aW,hm⟩,aB.symm⟩) (by rw [ae.ea,arz rfl])
   have Tl:=Hf (os:=hy ops τ) hZ (by rw [aI];exact g1);rw [show o::hy ops τ=hy ops (i::τ) from by simp [hy,aW]] at Tl;refine ⟨_,⟨(bV A.k).run (dt jn (b1 ops o)),(bV A.x).run (dt jn (b1 ops o)),c⟩::ms,fz,ef,Tl,by rw [g2,ar_];rfl,fun k aB=>?_,fun k=>?_,fun cF et k aB=>?_,.cons ⟨m,⟨o,aW,hm⟩,aB.symm,ak.symm⟩ g5⟩
   . rw [g3 k aB,ae.ea,arw aB]
   . rw [g4];unfold ae.set;simp only [T.VR]
   . rcases arM.1 et with rfl | et
     . rfl
     . rw [g6 cF et k aB,ae.ea,arw aB]
def q6 (E:Env):List (V × V)->List MapEntry->Prop
 | [],l=>l=[]
 | p::bo,l=>∃e es,l=e::es/\Rel E p.1 e.key/\Rel E p.2 e.val/\q6 E bo es
theorem q6.perm {E:Env} {bo j_:List (V × V)} (h:bo.Perm j_):∀{l:List MapEntry},q6 E j_ l->∃eE,q6 E bo eE/\eE.Perm l:=by
 induction h with
 | nil=>intro l h;exact ⟨l,h,.refl _⟩
 | cons x _ bc=>
   intro l h;obtain ⟨e,es,rfl,aa,ad,aH⟩:=h;obtain ⟨eE,g1,g2⟩:=bc aH;exact ⟨e::eE,⟨e,eE,rfl,aa,ad,g1⟩,g2.cons e⟩
 | swap x y vD=>
   intro l h;obtain ⟨e,es,rfl,aa,ad,cF,fA,rfl,aH,bw,cM⟩:=h;exact ⟨cF::e::fA,⟨cF,_,rfl,aH,bw,e,fA,rfl,aa,ad,cM⟩,List.Perm.swap _ _ _⟩
 | trans _ _ ag4 ag5=>
   intro l h;obtain ⟨e8,g1,g2⟩:=ag5 h;obtain ⟨hs,g3,g4⟩:=ag4 g1;exact ⟨hs,g3,g4.trans g2⟩
theorem q6.U4 {E:Env}:∀{ms:List b_} {l:List MapEntry},dx E ms l->q6 E (ms.map fun m=>(m.k,m.v)) l
 | [],l,h=>h
 | m::ms,l,h=>by obtain ⟨e,es,rfl,aa,ad,_,bw⟩:=h;exact ⟨e,es,rfl,aa,ad,q6.U4 bw⟩
theorem iP.U5 {E:Env}:∀{ms:List b_} {l:List MapEntry},q6 E (ms.map fun m=>(m.k,m.v)) l->iP E ms l
 | [],l,h=>h
 | m::ms,l,h=>by obtain ⟨e,es,rfl,aa,ad,bw⟩:=h;exact ⟨e,es,rfl,aa,ad,iP.U5 bw⟩
theorem ba.forget {aA:Fr} {E:Env} {h:ae} {w:World} (s:ba aA E h w) {b:aM} {p:ju} {es ms:List b_} {c:Nat} (aF:h.get b=.mp es c) (ag:E b=some p) (hL:(ms.map fun m=>(m.k,m.v)).Perm (es.map fun m=>(m.k,m.v))):
 ba aA E (h.set b (.hO ms)) w:=by
 have ah:=s.at ag;rw [aF] at ah;obtain ⟨p',a,gF,cG,a8,hm⟩:=ah;rw [ag] at gF;cases gF;obtain ⟨l,g1,g2⟩:=q6.perm hL (q6.U4 hm);exact s.set (by rw [aF];rfl) ag cG (arv _) (fun _ _=>rfl) rfl rfl rfl (fun _ _ _ e=>by cases e) ⟨p,a,c,l,ag,cG,a8,iP.U5 g1,g2⟩
theorem TH:∀(l:List Oper),(∀o ∈ l,o.dst=none)->∀{r c4:bI} {h av:ae} {es:List eR},(fx P ar ops l).run call r h=.ok es c4 av->∀o ∈ l,∃v H1 cX,(cI P ar ops o).run call r H1=.val v cX
 | [],_,_,_,_,_,_,_,o,aW=>by simp at aW
 | x::xs,aI,r,c4,h,av,es,he,o,aW=>by
   obtain ⟨v,aa,hJ,al,ao,rfl⟩:=He he;rcases arM.1 aW with rfl | aW
   . exact ⟨v,h,aa,al⟩
   . rw [aI x (by simp)] at ao;exact TH xs (fun b9 hq=>aI b9 (by simp [hq])) ao o aW
theorem ako {t:TypeId} {H H1:ae} {c:aM} {off:Nat} (h:H.get c=H1.get c):(qz P t).run H (.ptr c off)=(qz P t).run H1 (.ptr c off):=by
 unfold qz;cases bd P t with
 | none=>rfl
 | some aP=>
   simp only;cases aP.agg with
   | true=>simp only [aru,nM,V.jh,h]
   | false=>
     simp only [arB];cases Nat.beq aP.size 1 with
     | true=>simp only [aru,nN,V.jh,h]
     | false=>rfl
theorem acq {o:Oper} {t:TypeId} {x:Operand} (aW:o.op=.load t x) (aF:o.guard=none) {r:bI} {H1 ab:ae} {v:V} (he:(cI P ar ops o).run call r H1=.val v ab) {c:aM} {off:Nat} (ak:(bV x).run (dt r (b1 ops o))=.ptr c off)
 (H:ae) (mF:H.get c=H1.get c):(cI P ar ops o).run call r H=.val v H:=by
 obtain ⟨aa,ad⟩:=kO he;have key:cI P ar ops o=⟨jb none (fh P o) (b1 ops o)⟩:=by unfold cI;rw [show (eO ar o.dst&&iX (b1 ops o))=true from by rw [aa,ad];rfl,aF];rfl
 rw [key] at he ⊢;simp only [jb] at he ⊢;have wy:∀H,(fh P o).run call (dt r (b1 ops o)) H=a'.of H ((qz P t).run H (.ptr c off)):=by intro H;unfold fh;rw [aW];simp only [ak]
 rw [wy] at he ⊢;rw [ako mF];exact a'.xk he H
theorem Us {es:List eR} {h:ae} {b:aM}:∀{is:List Nat} {p:Nat},Cx P ops es h b call ar is p=true->∀q i o t x,is[q]? =some i->ops[i]? =some o->o.op=.load t x->
 ∃e c off ab,es[p+q]? =some e/\(bV x).run (dt e.r (b1 ops o))=.ptr c off/\c≠b/\o.guard=none/\(cI P ar ops o).run call e.r h=.val e.v ab
 | [],_,_,q,i,o,t,x,h,_,_=>by simp at h
 | j::ahq,p,ax,q,i,o,t,x,ay,aW,mL=>by
   simp only [Cx] at ax;cases q with
   | succ q=>
     cases bp:ops[j]? with
     | none=>rw [bp] at ax;cases ax
     | some aqP=>
       rw [bp] at ax;simp only [arp] at ax;have:=Us ax.2 q i o t x (by simpa using ay) aW mL;rw [show p + (q+1)=p+1+q from by omega];exact this
   | zero=>
     simp only [arG,arq] at ay;subst ay;rw [aW] at ax;simp only [arp] at ax;have aa:=ax.1;rw [mL] at aa;simp only at aa;rw [asB];cases he:es[p]? with
     | none=>rw [he] at aa;cases aa
     | some e=>
       rw [he] at aa;simp only at aa;cases ak:(bV x).run (dt e.r (b1 ops o))<;>rw [ak] at aa<;>simp only at aa<;>try (cases aa;done)
       rename_i c off;simp only [arp,aso] at aa;cases aF:o.guard with
       | some _=>rw [aF] at aa;cases aa.2
       | none=>
         rw [aF] at aa;simp only at aa;have ad:=aa.2;cases aD:(cI P ar ops o).run call e.r h with
         | fail=>rw [aD] at ad;cases ad
         | cP _ _=>rw [aD] at ad;cases ad
         | val v ab=>
           rw [aD] at ad;have bt:=Jh ad;exact ⟨e,c,off,ab,rfl,ak,(fun e=>by rw [e,aM.Bh] at aa;cases aa.1),rfl,by rw [aD,bt]⟩
theorem y_ {k:Nat}:∀{l:List Nat} {p:Nat},l.Nodup->l[p]? =some k->l.idxOf k=p
 | [],_,_,h=>by simp at h
 | x::xs,p,aV,h=>by
   rw [atr] at aV;cases p with
   | zero=>
     simp only [arG,arq] at h;subst h;simp
   | succ p=>
     have ak:xs[p]? =some k:=by simpa using h
     have c_:x≠k:=fun e=>aV.1 (e ▸ arX ak);rw [List.idxOf_cons];simp only [as3,c_,arB,show (x == k)=false from by simpa using c_];rw [y_ aV.2 ak]
def mT (ops:Array Oper) (i:Nat):Bool:=
 match ops[i]? with
 | some o=>lI o
 | none=>false
theorem FW {o:Oper} {A:xQ} (h:l9 o=some A):lI o=true/\eV P o.op=true/\gH o=false:=by obtain ⟨aW,_,_⟩:=Ce h;refine ⟨by unfold lI;rw [aW],by rw [aW];rfl,by unfold gH;rw [aW]⟩
theorem akj {aE:List Nat} {bT dp:Nat} {t:TypeId} (av:Cv P ops aE bT dp t=true):∀i o,ops[i]? =some o->∃cS,(eK [] ops.toList)[i]? =some cS/\m' i o=true/\
 (∀k ok,ops[k]? =some ok->∃mk,(eK [] ops.toList)[k]? =some mk/\pI i cS (b1 ops o) o.dst k mk ok (Nat.blt (posOf aE k) (posOf aE i))=true)/\
 (posOf aE i<bT->lI o=false/\ee P o=false/\(looks o.op=true->eV P o.op=false->∃t x,o.op=.load t x))/\
 (¬posOf aE i<bT->posOf aE i<dp->∃A,l9 o=some A/\A.t=t)/\
 (¬posOf aE i<bT->¬posOf aE i<dp->eV P o.op=false/\looks o.op=false):=by
 unfold Cv at av;simp only [arp] at av;replace av:=av.2;intro i o aw;obtain ⟨cS,aa,ad⟩:=qW av i o (by simpa using aw);simp only [arV,arp] at ad;obtain ⟨⟨aH,bw⟩,cM⟩:=ad;refine ⟨cS,aa,aH,fun k ok aB=>?_,fun aS=>?_,fun iH aS=>?_,fun iH afs=>?_⟩
 . obtain ⟨mk,b3,b5⟩:=qW bw k ok (by simpa using aB);simp only [arV] at b5;exact ⟨mk,b3,b5⟩
 . rw [show Nat.blt (posOf aE i) bT=true from by rw [arS];exact aS] at cM;simp only [aru,arp,aso,asF] at cM;refine ⟨cM.1.1,cM.1.2,fun ax he=>?_⟩;rcases cM.2 with (h | h) | h
   . rw [ax] at h;cases h
   . rw [he] at h;cases h
   . cases mL:o.op<;>rw [mL] at h<;>simp only at h<;>first
      | (cases h;done)
      | exact ⟨_,_,rfl⟩
 . rw [show Nat.blt (posOf aE i) bT=false from by rw [<-ar4,arS];exact iH,show Nat.blt (posOf aE i) dp=true from by rw [arS];exact aS] at cM;simp only [aru,arB] at cM;cases bs:l9 o with
   | none=>rw [bs] at cM;cases cM
   | some A=>rw [bs] at cM;exact ⟨A,rfl,asn cM⟩
 . rw [show Nat.blt (posOf aE i) bT=false from by rw [<-ar4,arS];exact iH,show Nat.blt (posOf aE i) dp=false from by rw [<-ar4,arS];exact afs] at cM;simp only [arB,arp,aso] at cM;exact cM
theorem akk {order:List Nat} {es:List eR} {bT:Nat} {b:aM} {jn:bI} {A:xQ} (h:F4 ops order es bT=some (b,jn,A)):
 ∃e i o,es[bT]? =some e/\order[bT]? =some i/\ops[i]? =some o/\l9 o=some A/\e.r=jn:=by
 unfold F4 at h;cases he:es[bT]? with
 | none=>rw [he] at h;cases h
 | some e=>
   rw [he] at h;simp only at h;cases aw:order[bT]? with
   | none=>rw [aw] at h;cases h
   | some i=>
     rw [aw] at h;simp only at h;cases aW:ops[i]? with
     | none=>rw [aW] at h;cases h
     | some o=>
       rw [aW] at h;simp only at h;cases bs:l9 o with
       | none=>rw [bs] at h;cases h
       | some i_=>
         rw [bs] at h;simp only at h;cases hm:(bV i_.m).run (dt e.r (b1 ops o))<;>rw [hm] at h<;>simp only at h<;>try (cases h;done)
         simp only [arq,asi] at h;obtain ⟨_,ad,rfl⟩:=h;exact ⟨e,i,o,rfl,rfl,aW,bs,ad⟩
theorem UC {r:bI} {b:aM} {f:Nat->V × V} (av:∀i m,lo ops r b i m->f i=(m.k,m.v)):∀{is:List Nat} {ms:List b_},pP (fun i (m:b_)=>∃dj,lo ops r b i dj/\m.k=dj.k/\m.v=dj.v) is ms->ms.map (fun m=>(m.k,m.v))=is.map f
 | _,_,.nil=>rfl
 | _,_,.cons (a:=i) (b:=m) aY aG=>by obtain ⟨dj,aa,ad,aH⟩:=aY;simp only [ast,UC av aG,av i dj aa,ad,aH]
theorem zB {n:Nat} {order aE:List Nat} (hL:lP n order aE=true) {p i:Nat} (h:order[p]? =some i):posOf aE i=p/\i<n:=by unfold lP at hL;simp only [arp,arZ] at hL;obtain ⟨_,ad,_,bw⟩:=hL;have:=vh bw h;rw [arV] at this;refine ⟨by unfold posOf;rw [this];rfl,?_⟩;have:=(arL.1 this).1;omega
theorem ak_ {l:List Nat} {f:Nat->Nat} (h:∀p i,l[p]? =some i->f i=p):l.Nodup:=by rw [List.Nodup,List.pairwise_iff_getElem];intro i j aw bp pr he;have aa:=h i _ (ars aw);have ad:=h j _ (ars bp);rw [he,ad] at aa;omega
theorem pP.left {α β:Type} {R:α->β->Prop}:∀{e8:List α} {hs:List β},pP R e8 hs->∀x ∈ e8,∃y ∈ hs,R x y
 | _,_,.nil,x,h=>by simp at h
 | _,_,.cons aY aG,x,h=>by
   rcases arM.1 h with rfl | h
   . exact ⟨_,by simp,aY⟩
   . obtain ⟨y,aa,ad⟩:=aG.left x h;exact ⟨y,by simp [aa],ad⟩
theorem ahm {o:Oper} (h:lI o=true):eV P o.op=true/\gH o=false:=by
 unfold lI at h;unfold gH;cases aW:o.op<;>rw [aW] at h<;>simp only at h<;>first
  | (cases h;done)
  | exact ⟨rfl,rfl⟩
theorem aoq {pre σ post:List Nat} (ps:(pre++(σ++post)).Nodup) (k q:Nat):(pre[q]? =some k->(pre++(σ++post)).idxOf k=q)/\(σ[q]? =some k->(pre++(σ++post)).idxOf k=pre.length+q)/\(post[q]? =some k->(pre++(σ++post)).idxOf k=pre.length+σ.length+q):=by
 refine ⟨fun h=>y_ ps ?_,fun h=>y_ ps ?_,fun h=>y_ ps ?_⟩
 . have:=(arL.1 h).1;rw [arI this];exact h
 . have:=(arL.1 h).1;rw [arJ (by omega),Nat.add_sub_cancel_left,arI this];exact h
 . rw [arJ (by omega),arJ (by omega)];rw [show pre.length+σ.length+q-pre.length-σ.length=q from by omega];exact h
theorem akl {rd:Option Nat} {D:List Deferred} {aA:Fr} {calls:Nat->dT} {es:List eR} {a_:bI} {aY:ae} {c4:bI} {av:ae} {ey order aE:List Nat} (bF:eg P) (cf:∀i,gN P (calls i)) (dL:∀i,g_ P (calls i))
 (C:Cert P ar ops calls es a_ aY c4 av ey order aE ops.size ops.size true) {gz:Env} {Q:Exit->Act->World->Prop}
 (cD:∀au bm w',gz.le au->RegRel0 au ar c4 bm->bm.defers=D->ba aA au av w'->Q .normal bm w') {uh:List Nat}
 (gS:∀i k,mT ops i=true->mT ops k=true->posOf aE k<posOf aE i->∀a b,uh=a++i::b->k ∈ a):
 ∀(fuel t:Nat) (listed:Array Bool) (done:List Nat) (a:Act) (w:World),uh=done++Region.linearise.go .any ops fuel t listed []->(∀k,k<ops.size->(listed.getD k false=true↔k ∈ done))->
  (List.range ops.size).countP (fun i=>!listed.getD i false)<=fuel->qY P aA ar ops es a_ av ey aE gz ops.size D listed a w->wpOpsIn (ca rd) 0 P ops Q (Region.linearise.go .any ops fuel t listed []) a w:=by
 have iI:∀i o,ops[i]? =some o->m' i o=true:=fun i o h=>by obtain ⟨_,_,ad,_⟩:=C.nv i o h;exact ad
 have fin:∀(listed:Array Bool) (a:Act) (w:World),(∀k,k<ops.size->listed.getD k false=true)->qY P aA ar ops es a_ av ey aE gz ops.size D listed a w->Q .normal a w:=by intro listed a w cY I;obtain ⟨au,g1,g2,g3,g4⟩:=Q0 C (arv _) I fun k aB _=>cY k aB;exact cD au a w g1 g2 g3 g4
 intro fuel
 induction fuel with
 | zero=>
   intro t listed done a w sS Kg aq I;have aY:(List.range ops.size).countP (fun i=>!listed.getD i false)=0:=by omega
   rw [List.countP_eq_zero] at aY;exact fin listed a w (fun k aB=>by simpa using aY k (asW.2 aB)) I
 | succ fuel bc=>
   intro t listed done a w sS Kg aq I;rw [go_succ] at sS ⊢;cases aD:xu ops t listed with
   | none=>exact fin listed a w (fun k aB=>zI iI I.tk (V6 aD) k aB) I
   | some i=>
     rw [aD] at sS;simp only at sS ⊢;obtain ⟨i1,i2⟩:=xv I.tk (Mr aD);have ax:i<listed.size:=by rw [I.tk];exact i1
     have ap7:=count_set I.tk i1 i2;rw [wpOpsIn_cons];refine Q9 bF cf dL C I (Mr aD) (C.iv i i1).1 (fun _ o k ok cA wK Fu afF aS=>?_) (fun bm w' HJ=>bc _ _ (done++[i]) bm w' (by rw [ar_];exact sS) (fun k aB=>?_) (by omega) HJ) (fun _ _ _ _ _ _ _ h=>absurd h (asT _))
     . have aB:k<ops.size:=(art.1 Fu).1;exact (Kg k aB).2 (gS i k (by unfold mT;rw [cA];exact wK) (by unfold mT;rw [Fu];exact afF) aS _ _ sS)
     . rw [fJ ax,Kg k aB,asX,asl];exact Or.comm
def Je (ops:Array Oper) (r:bI) (b:aM) (i:Nat):V × V:=
 match ops[i]? with
 | some o=>(match u2 ops r b o with
   | some m=>(m.k,m.v)
   | none=>(.bad,.bad))
 | none=>(.bad,.bad)
theorem Rq {r:bI} {b:aM} {i:Nat} {m:b_} (h:lo ops r b i m):Je ops r b i=(m.k,m.v):=by obtain ⟨o,aa,ad⟩:=h;unfold Je;rw [aa];simp only [ad]
theorem UD {r:bI} {b:aM}:∀{is:List Nat} {ms:List b_},pP (lo ops r b) is ms->ms.map (fun m=>(m.k,m.v))=is.map (Je ops r b)
 | _,_,.nil=>rfl
 | _,_,.cons aY aG=>by simp only [ast,UD aG,Rq aY]
theorem akm {rd:Option Nat} {aA:Fr} {E:Env} {h:ae} {w:World} {id:Nat} (cN:P.follows .mixedOrders=true) (bF:eg P) (cf:gN P call) (dL:g_ P call) {r:bI} {a:Act} {order aE:List Nat} {bT dp:Nat} (hL:lP ops.size order aE=true)
 {Q:Exit->Act->World->Prop} (ag:oc aA E ar (Q .normal) Q (Lr P ar ops order aE bT dp (fx P ar ops (hy ops order)) call r h)) (k:fg E ar r a) (s:ba aA E h w):(Code.region id ops true).wpIn (ca rd) 0 P Q a w:=by
 unfold Lr at ag;cases cV:(fx P ar ops (hy ops order)).run call r h with
 | fail=>rw [cV] at ag;exact ag.elim
 | cP _ _ _ _ _=>rw [cV] at ag;exact ag.elim
 | ok es eC a8=>
 rw [cV] at ag;simp only at ag;cases s3:F4 ops order es bT with
 | none=>rw [s3] at ag;exact ag.elim
 | some x=>
 obtain ⟨b,jn,A⟩:=x;rw [s3] at ag;simp only at ag;cases po:(cg es a8 bT).get b<;>rw [po] at ag<;>try (exact False.elim ag)
 rename_i Jj pY;cases Jj with
 | cons _ _=>exact False.elim ag
 | nil=>
 simp only at ag;cases yR:w4 ops jn b ((order.drop bT).take (dp-bT)) with
 | none=>rw [yR] at ag;exact ag.elim
 | some ms=>
 rw [yR] at ag;simp only at ag;cases aq:(Cv P ops aE bT dp A.t&&(AS (u4 P A.t) ms&&(Cx P ops es (cg es a8 bT) b call ar (order.take bT) 0&&Bj ((bV A.m).run eC) (.map b)))) with
 | false=>rw [aq] at ag;exact ag.elim
 | true=>
 rw [aq] at ag;simp only [aru] at ag;simp only [arp] at aq;obtain ⟨uK,E_,eA,s4⟩:=aq;have s4:=Jh s4;obtain ⟨pt,VB,aqR⟩:=Vu hL;have Kr:order.Nodup:=ak_ fun p i h=>(zB hL h).1;obtain ⟨c9,i0,gX,JT,wI,af1,Bv,afo⟩:=akk s3;obtain ⟨amF,-,-,-⟩:=vt cV;have hlen:es.length=ops.size:=by rw [amF,qD,pt]
 have jf:bT<ops.size:=by rw [<-pt];exact (arL.1 wI).1
 have nv:=akj uK;generalize rI:order.take bT=pre at eA;generalize wK:(order.drop bT).take (dp-bT)=ins at yR;generalize Td:(order.drop bT).drop (dp-bT)=post;have qj:order=pre++(ins++post):=by rw [<-rI,<-wK,<-Td,asI,asI]
 have yV:pre.length=bT:=by rw [<-rI,ar6];omega
 have aqh:bT<dp:=by
  obtain ⟨gG,_⟩:=zB hL wI;rcases asO bT dp with h | h
  . exact h
  . exfalso;obtain ⟨_,_,_,_,_,_,f3⟩:=nv i0 gX af1;obtain ⟨ak,_⟩:=f3 (by omega) (by omega);rw [(FW (P:=P) Bv).2.1] at ak;cases ak
 have afD:ins.length=dp-bT\/post=[]:=by
  rcases asO (dp-bT) (order.drop bT).length with h | h
  . left;rw [<-wK,ar6];omega
  . right;rw [<-Td];exact asy h
 have Iu:∀q i,pre[q]? =some i->posOf aE i=q/\i<ops.size/\q<bT:=by intro q i h;have ay:=(arL.1 h).1;obtain ⟨aa,ad⟩:=zB hL (p:=q) (i:=i) (by rw [qj,arI ay];exact h);exact ⟨aa,ad,by omega⟩
 have Is:∀q i,ins[q]? =some i->posOf aE i=bT+q/\i<ops.size/\bT+q<dp:=by
  intro q i h;have ay:=(arL.1 h).1;obtain ⟨aa,ad⟩:=zB hL (p:=bT+q) (i:=i) (by rw [qj,arJ (by omega),yV,Nat.add_sub_cancel_left,arI ay];exact h);refine ⟨aa,ad,?_⟩;have:ins.length<=dp-bT:=by rw [<-wK,ar6];omega
  omega
 have It:∀q i,post[q]? =some i->posOf aE i=bT+ins.length+q/\i<ops.size/\ins.length=dp-bT:=by
  intro q i h;have ax:ins.length=dp-bT:=by
   rcases afD with ab | ab
   . exact ab
   . rw [ab] at h;simp at h
  obtain ⟨aa,ad⟩:=zB hL (p:=bT+ins.length+q) (i:=i) (by rw [qj,arJ (by omega),arJ (by omega),yV,show bT+ins.length+q-bT-ins.length=q from by omega];exact h);exact ⟨aa,ad,ax⟩
 have Xp:∀i,i<ops.size->(∃q:Nat,pre[q]? =some i)\/(∃q:Nat,ins[q]? =some i)\/∃q:Nat,post[q]? =some i:=by
  intro i aw;have hm:i ∈ order:=arX (VB i aw).2;rw [qj,asX,asX] at hm;rcases hm with h | h | h
  . exact .inl (asa.1 h)
  . exact .inr (.inl (asa.1 h))
  . exact .inr (.inr (asa.1 h))
 have Mc:∀i o,i ∈ pre->ops[i]? =some o->lI o=false/\ee P o=false/\(looks o.op=true->eV P o.op=false->∃t x,o.op=.load t x):=by intro i o aw aW;obtain ⟨q,ay⟩:=asa.1 aw;obtain ⟨aa,ad,aH⟩:=Iu q i ay;obtain ⟨_,_,_,_,f1,_,_⟩:=nv i o aW;exact f1 (by omega)
 have Cf:∀i,i ∈ ins->∃o i_,ops[i]? =some o/\l9 o=some i_/\i_.t=A.t:=by intro i aw;obtain ⟨q,ay⟩:=asa.1 aw;obtain ⟨aa,ad,aH⟩:=Is q i ay;obtain ⟨_,_,_,_,_,f2,_⟩:=nv i _ (arO ad);obtain ⟨i_,g1,g2⟩:=f2 (by omega) (by omega);exact ⟨_,i_,arO ad,g1,g2⟩
 have CV:∀i o,i ∈ post->ops[i]? =some o->eV P o.op=false/\looks o.op=false:=by intro i o aw aW;obtain ⟨q,ay⟩:=asa.1 aw;obtain ⟨aa,ad,aH⟩:=It q i ay;obtain ⟨_,_,_,_,_,_,f3⟩:=nv i o aW;exact f3 (by omega) (by omega)
 have K3:∀i,i<ops.size->(mT ops i=true↔i ∈ ins):=by
  intro i aw;have cA:ops[i]? =some ops[i]:=arO aw;constructor
  . intro h;unfold mT at h;rw [cA] at h;simp only at h;rcases Xp i aw with ⟨q,ay⟩ | ⟨q,ay⟩ | ⟨q,ay⟩
    . rw [(Mc i _ (arX ay) cA).1] at h;cases h
    . exact arX ay
    . have:=(CV i _ (arX ay) cA).1;rw [(ahm (P:=P) h).1] at this;cases this
  . intro h;obtain ⟨o,i_,g1,g2,_⟩:=Cf i h;unfold mT;rw [g1];exact (FW (P:=P) g2).1
 have Ks:ins.Nodup:=by rw [qj] at Kr;exact (atE.1 (atE.1 Kr).2.1).1
 have B4:=cV;rw [qj,CL,CL] at B4;obtain ⟨hJ,bH,aa,ac2,wT,Tf,ry⟩:=MN _ _ B4;obtain ⟨rk,c2,ad,Jk,l8,agf,ap8⟩:=MN _ _ Tf;obtain ⟨e8,-,-,-⟩:=vt wT;rw [qD,yV] at e8;obtain ⟨-,bX,bA,-⟩:=vt Tf;have SL:ac2[0]? =some c9:=by rw [ry,arJ (by omega),e8,as6] at JT;exact JT
 have agi:bH=jn:=by unfold eo at bA;rw [SL] at bA;exact bA.symm.trans afo
 have afx:cg es a8 bT=aa:=by unfold cg at bX ⊢;rw [JT];rw [SL] at bX;exact bX
 subst agi;rw [afx] at po eA;have oA:∀i ∈ ins,∃o i_ m,ops[i]? =some o/\l9 o=some i_/\(Cl P i_.t=true/\u4 P i_.t=u4 P A.t)/\u2 ops bH b o=some m/\∃v H1 cX,(cI P ar ops o).run call bH H1=.val v cX:=by
  intro i aw;obtain ⟨o,i_,g1,g2,g3⟩:=Cf i aw;obtain ⟨m,_,b9,g4,g5⟩:=(FU yR).left i aw;rw [g1] at g4;cases g4;refine ⟨o,i_,m,g1,g2,⟨by rw [g3];unfold Cv at uK;rw [arp] at uK;exact uK.1,by rw [g3]⟩,g5,TH (hy ops ins) (fun cw yS=>?_) l8 o ?_⟩
  . obtain ⟨q,ay⟩:=asa.1 yS;have uQ:q<ins.length:=by rw [<-qD (ops:=ops)];exact (arL.1 ay).1
    obtain ⟨ml,ep,qv,w5,_⟩:=Cf _ (arY uQ);have:=nQ (ars uQ) qv;rw [ay] at this;cases this;exact (Ce w5).2.1
  . obtain ⟨q,ay⟩:=asa.1 aw;exact arX (nQ ay g1)
 have Fa:=Oc (FU yR) Ks E_;obtain ⟨apQ,aqA,apE,ni,Jr,apV,apW,adK,_,apX⟩:=K5 oA Fa ins [] [] pY aa (fun i aw=>aw) (fun i aw=>by simp at aw) (by simpa using Ks) (fun m hm=>by simp at hm) po;rw [l8] at Jr;simp only [qZ.ok.injEq] at Jr;obtain ⟨-,age,aeG⟩:=Jr;subst age aeG
 obtain ⟨J7,agd⟩:=VX (hy ops post) (fun cw yS=>by
  obtain ⟨q,ay⟩:=asa.1 yS;have uQ:q<post.length:=by rw [<-qD (ops:=ops)];exact (arL.1 ay).1
  obtain ⟨_,Ft,_⟩:=It q _ (ars uQ);have:=nQ (ars uQ) (arO Ft);rw [ay] at this;cases this;exact CV _ _ (arY uQ) (arO Ft)) agf
 subst J7;refine wpIn_region_draw fun t=>?_;simp only [Region.schedule,cN,Bool.true_or,ar2];have iI:∀i o,ops[i]? =some o->m' i o=true:=fun i o h=>by obtain ⟨_,_,ad,_⟩:=nv i o h;exact ad
 have dJ:∀k,¬(Array.replicate ops.size false).getD k false=true:=by
  intro k;rw [uz,Array.getElem?_replicate]
  split<;>simp
 obtain ⟨s1,s2,iO⟩:=R_ (ops:=ops) iI ops.size t (Array.replicate ops.size false) (by simp) (asq atA (by simp));change wpOpsIn (ca rd) 0 P ops Q (Region.linearise.go .any ops ops.size t (Array.replicate ops.size false) []) a {w with drawn:=w.drawn+1};generalize sS:Region.linearise.go .any ops ops.size t (Array.replicate ops.size false) []=uh at s1 s2 iO;generalize K0:uh.filter (mT ops)=σ;have LC:∀k,k ∈ σ↔k ∈ ins:=by
  intro k;rw [<-K0,atq];constructor
  . rintro ⟨g1,g2⟩;exact (K3 k (s2 k g1).1).1 g2
  . intro g;obtain ⟨q,ay⟩:=asa.1 g;have aB:=(Is q k ay).2.1;refine ⟨?_,(K3 k aB).2 g⟩;rcases iO k aB with h | h
    . exact absurd h (dJ k)
    . exact h
 have S8:σ.Nodup:=by rw [<-K0];exact s1.filter _
 have KD:σ.Perm ins:=(List.perm_ext_iff_of_nodup S8 Ks).2 LC;have Ty:σ.length=ins.length:=KD.length_eq;have l7:(pre++(σ++post)).Perm order:=by rw [qj];exact (KD.append_right post).append_left pre
 have Kt:(pre++(σ++post)).Nodup:=l7.nodup_iff.2 Kr;have BU:(pre++(σ++post)).length=ops.size:=by rw [l7.length_eq,pt]
 have D7:=aoq Kt;generalize af9:(List.range ops.size).map (fun k=>(pre++(σ++post)).idxOf k)=k';have yU:∀k,k<ops.size->posOf k' k=(pre++(σ++post)).idxOf k:=by intro k aB;rw [<-af9];unfold posOf;rw [ase,List.getElem?_range aB];rfl
 have CP:∀i,i<ops.size->i ∈ pre->posOf k' i=posOf aE i/\posOf aE i<bT:=by intro i aw hm;obtain ⟨q,ay⟩:=asa.1 hm;obtain ⟨g1,_,g3⟩:=Iu q i ay;rw [yU i aw,(D7 i q).1 ay,g1];exact ⟨rfl,g3⟩
 have CO:∀i,i<ops.size->i ∈ ins->∃q:Nat,σ[q]? =some i/\posOf k' i=bT+q/\q<ins.length/\bT<=posOf aE i/\posOf aE i<bT+ins.length:=by intro i aw hm;obtain ⟨q,ay⟩:=asa.1 ((LC i).2 hm);obtain ⟨fc,pw⟩:=asa.1 hm;obtain ⟨g1,_,g3⟩:=Is fc i pw;have:=(arL.1 ay).1;have:=(arL.1 pw).1;exact ⟨q,ay,by rw [yU i aw,(D7 i q).2.1 ay,yV],by omega,by omega,by omega⟩
 have L5:∀i,i<ops.size->i ∈ post->posOf k' i=posOf aE i/\bT+ins.length<=posOf aE i:=by intro i aw hm;obtain ⟨q,ay⟩:=asa.1 hm;obtain ⟨g1,_,_⟩:=It q i ay;rw [yU i aw,(D7 i q).2.2 ay,g1,Ty,yV];exact ⟨rfl,by omega⟩
 have cls:∀i,i<ops.size->i ∈ pre\/i ∈ ins\/i ∈ post:=by
  intro i aw;rcases Xp i aw with ⟨q,ay⟩ | ⟨q,ay⟩ | ⟨q,ay⟩
  . exact .inl (arX ay)
  . exact .inr (.inl (arX ay))
  . exact .inr (.inr (arX ay))
 obtain ⟨wh,aqB,apF,Av,R3,adL,adM,adN,adP,adO⟩:=K5 oA Fa σ [] [] pY aa (fun i aw=>(LC i).1 aw) (fun i aw=>by simp at aw) (by simpa using S8) (fun m hm=>by simp at hm) po;obtain ⟨yq,agh⟩:=agd Av;have Tj:=MO _ _ wT (MO _ _ R3 agh);rw [<-CL,<-CL] at Tj;obtain ⟨ajK,-,-,-⟩:=vt R3;rw [qD,Ty] at ajK;obtain ⟨bN,z2,z3,z4⟩:=vt Tj;rw [qD,BU] at bN;have VC:∀k,k<ops.size->posOf k' k<ops.size/\(pre++(σ++post))[posOf k' k]? =some k:=by intro k aB;have hm:k ∈ pre++(σ++post):=l7.mem_iff.2 (arX (VB k aB).2);obtain ⟨q,ay⟩:=asa.1 hm;have KF:=y_ Kt ay;rw [yU k aB,KF];have:=(arL.1 ay).1;exact ⟨by omega,ay⟩
 have al3:∀p,p<ops.size->∃i,i<ops.size/\posOf k' i=p:=by intro p ag;have ay:(pre++(σ++post))[p]? =some ((pre++(σ++post))[p]'(by omega)):=ars _;have hm:(pre++(σ++post))[p]'(by omega) ∈ order:=l7.mem_iff.1 (arY _);obtain ⟨q,rJ⟩:=asa.1 hm;have aS:=(zB hL rJ).2;exact ⟨_,aS,by rw [yU _ aS];exact y_ Kt ay⟩
 have Qv:∀j o,ops[j]? =some o->ee P o=true->j ∈ ins:=by
  intro j o aW lD;rcases cls j (art.1 aW).1 with h | h | h
  . rw [(Mc j o h aW).2.1] at lD;cases lD
  . exact h
  . unfold ee at lD;rw [(CV j o h aW).1] at lD;cases lD
 have K4:∀k ok,k ∈ ins->ops[k]? =some ok->ok.dst=none/\lI ok=true:=by intro k ok aB bB;obtain ⟨o,i_,g1,g2,_⟩:=Cf k aB;rw [bB] at g1;cases g1;exact ⟨(Ce g2).2.1,(FW (P:=P) g2).1⟩
 have ZG:∀st,st=ops.size\/(∃k,k<ops.size/\k ∈ ins/\st=posOf k' k)->∀c,b≠c->(cg (hJ++(wh++yq)) Av st).get c=aa.get c:=by
  rintro st (rfl | ⟨k,aB,gD,rfl⟩) c aq
  . unfold cg;rw [arW (by omega)];exact adM c aq
  . obtain ⟨q,_,g2,g3,_⟩:=CO k aB gD;have FF:q<wh.length:=by omega
    unfold cg;rw [g2,arJ (by omega),e8,Nat.add_sub_cancel_left,arI FF,ars FF];exact adP _ (arY FF) c aq
 have C:Cert P ar ops (fun _=>call) (hJ++(wh++yq)) r h eC Av (hN P k' 0 ops.toList) (pre++(σ++post)) k' ops.size ops.size true:=by
  refine ⟨bN,arv _,arv _,VC,al3,z2,z3,?_,?_,?_,?_,?_,?_,fun h=>absurd h (asT _),fun h=>absurd h (asT _)⟩
  . intro i o aW _;exact z4 _ o (nQ (VC i (art.1 aW).1).2 aW)
  . intro i o cA;obtain ⟨cS,f1,f2,f3,_⟩:=nv i o cA;refine ⟨cS,f1,f2,fun _ k ok bB _=>?_⟩;obtain ⟨mk,f4,f5⟩:=f3 k ok bB;have aw:i<ops.size:=(art.1 cA).1;have aB:k<ops.size:=(art.1 bB).1;refine ⟨mk,f4,?_,fun he lD aS=>?_⟩
    . by_cases gD:k ∈ ins
      . unfold pI;rw [(K4 k ok gD bB).1];simp
      . have ah:Nat.blt (posOf k' k) (posOf k' i)=Nat.blt (posOf aE k) (posOf aE i):=by
         rw [ass,arS,arS];rcases cls k aB with aq | aq | aq
         . obtain ⟨bE,a2⟩:=CP k aB aq;rcases cls i aw with aI | aI | aI
           . obtain ⟨cc,cj⟩:=CP i aw aI;omega
           . obtain ⟨q,_,cj,eI,jX,jv⟩:=CO i aw aI;omega
           . obtain ⟨cc,cj⟩:=L5 i aw aI;omega
         . exact absurd aq gD
         . obtain ⟨bE,a2⟩:=L5 k aB aq;rcases cls i aw with aI | aI | aI
           . obtain ⟨cc,cj⟩:=CP i aw aI;omega
           . obtain ⟨q,_,cj,eI,jX,jv⟩:=CO i aw aI;omega
           . obtain ⟨cc,cj⟩:=L5 i aw aI;omega
        rw [ah];exact f5
    . have gD:=Qv k ok bB lD;obtain ⟨aqW,_,cj,eI,jX,jv⟩:=CO k aB gD;rcases cls i aw with aI | aI | aI
      . obtain ⟨bE,a2⟩:=CP i aw aI;omega
      . exact .inr ⟨rfl,(K4 i o aI cA).2,(K4 k ok gD bB).2⟩
      . rw [(CV i o aI cA).1] at he;cases he
  . have:=F2 (P:=P) (aE:=k') (l:=ops.toList) (i:=0);simpa using this
  . intro j o g1 g2;have:=zf (P:=P) (aE:=k') (i:=0) (j:=j) (l:=ops.toList) (o:=o) (by simpa using g1) g2;simpa using this
  . intro st cE;rcases u6 cE with h | ⟨j,o,g1,g2,g3⟩
    . exact .inl (.inl (by simpa using h))
    . exact .inr ⟨j,o,by simpa using g1,g2,by simpa using g3⟩
  . intro j o rE ax he _;have bp:j<ops.size:=(art.1 rE).1;have oD:j ∈ pre:=by
     rcases cls j bp with aI | aI | aI
     . exact aI
     . obtain ⟨b9,i_,g1,g2,_⟩:=Cf j aI;rw [rE] at g1;cases g1;rw [(FW (P:=P) g2).2.1] at he;cases he
     . rw [(CV j o aI rE).2] at ax;cases ax
    obtain ⟨tL,Xy,mL⟩:=(Mc j o oD rE).2.2 ax he;obtain ⟨q,ay⟩:=asa.1 oD;obtain ⟨bE,_,a3⟩:=Iu q j ay;obtain ⟨e,c,off,ab,du,e3,y3,y4,Nh⟩:=Us eA q j o tL Xy ay rE mL;have afi:(hJ++(wh++yq))[posOf k' j]? =some e:=by rw [(CP j bp oD).1,bE,arI (by omega)];rw [arV,ry,arI (by omega)] at du;exact du
    refine ⟨e,afi,fun st cE _=>⟨call,_,⟨cf,dL⟩,acq mL y4 Nh e3 _ (ZG st ?_ c fun h=>y3 h.symm)⟩⟩;rcases u6 cE with h | ⟨br,b9,g1,g2,g3⟩
    . exact .inl (by simpa using h)
    . have FC:ops[br]? =some b9:=by simpa using g1
      exact .inr ⟨br,(art.1 FC).1,Qv br b9 FC g2,by simpa using g3⟩
 have kV:∀(au:Env) (bm:Act),E.le au->bm.defers=a.defers->∀(a7:bI),T.get .bad eN a7=T.get .bad eN r->lY au (T.get .bad eN a7) bm.defers:=fun au bm he aI a7 s6=>by rw [s6,aI];exact k.defers.mono he
 have Fk:T.get .bad eN eC=T.get .bad eN r:=by have:=C.I9 ops.size (arv _);have Kv:(hJ++(wh++yq))[ops.size]? =none:=arW (by omega);unfold eo at this;rw [Kv] at this;exact this
 have kn:Holds aA aA (hJ++(wh++yq)) Av k' (ke ops (hJ++(wh++yq)) Av k' (Array.replicate ops.size false) 0):=
  ⟨rfl,fun _ _=>rfl,fun k aB=>(by obtain ⟨_,_,_,_,aY⟩:=aB;omega),fun k br aB=>(by obtain ⟨_,_,_,_,aY⟩:=aB;omega)⟩
 obtain ⟨fU,dU,g1,g2,g3,g4,g5,g6⟩:=C.advance ops.size 0 (by omega) (fun k o _ _ _=>dJ k) aA kn (E:=E) (w:={w with drawn:=w.drawn}) (by rw [C.aY];exact s.same rfl rfl rfl rfl);rw [<-sS];refine akl (aA:=aA) bF (fun _=>cf) (fun _=>dL) C (gz:=E) (D:=a.defers) (uh:=uh) (fun au bm w' al ao aK bG=>?_) (fun i k aw aB aS bm bR aeR=>?_) ops.size t _ [] a _ (by rw [sS];rfl) (fun k _=>⟨fun h=>absurd h (dJ k),fun h=>by simp at h⟩) (asq atA (by simp)) ?_
 . refine ag au bm w' al ⟨ao,kV au bm al aK eC Fk⟩ ?_;have mO:=dH ao A.m;rw [s4] at mO;simp only [Rel] at mO;obtain ⟨p,aeB,_⟩:=mO;rw [adK,<-adN];refine bG.forget adL aeB ?_;rw [asb,UD (FU yR),UC (fun i m h=>Rq h) adO];exact KD.symm.map _
 . have oC:i<ops.size:=by
    unfold mT at aw;cases aW:ops[i]? with
    | none=>rw [aW] at aw;cases aw
    | some o=>exact (art.1 aW).1
   have Ka:k<ops.size:=by
    unfold mT at aB;cases aW:ops[k]? with
    | none=>rw [aW] at aB;cases aB
    | some o=>exact (art.1 aW).1
   have gD:=(K3 k Ka).1 aB;have Tx:σ=bm.filter (mT ops)++i::bR.filter (mT ops):=by rw [<-K0,aeR,List.filter_append,List.filter_cons_of_pos aw]
   have j0:posOf k' i=bT + (bm.filter (mT ops)).length:=by rw [yU i oC,(D7 i (bm.filter (mT ops)).length).2.1 (by rw [Tx,arJ (arv _),as6];rfl),yV]
   obtain ⟨q,ay,FE,_⟩:=CO k Ka gD;have uQ:q < (bm.filter (mT ops)).length:=by omega
   rw [Tx,arI uQ] at ay;exact (atq.1 (arX ay)).1
 . refine ⟨by simp,k.size,rfl,fun br aB=>absurd aB (dJ br),fun br o e aB=>absurd aB (dJ br),E,fU,dU,Env.le.refl E,g1,g3,fun br o aa ad=>⟨fun h=>absurd h (dJ br),fun h=>by have:=g4 br o aa ad (asP _);omega⟩,
    fun br o _ _ h=>absurd h (dJ br),g5,?_,fun t aG=>.inr ⟨fun br o aB=>absurd aB (dJ br),k.an t aG⟩⟩
   exact g6.same rfl rfl rfl rfl
theorem acu {rd:Option Nat} {aA:Fr} {E:Env} {h:ae} {w:World} {id:Nat} (cN:P.follows .mixedOrders=true) (bF:eg P) (cf:gN P call) (dL:g_ P call) {r:bI} {a:Act}
 {Q:Exit->Act->World->Prop} (ag:oc aA E ar (Q .normal) Q ((I6 P ar ops).run call r h)) (k:fg E ar r a) (s:ba aA E h w):(Code.region id ops true).wpIn (ca rd) 0 P Q a w:=by
 unfold I6 at ag;generalize vd P ops=order at ag;generalize zC order 0 ops.toList=aE at ag;unfold Q7 at ag;cases av:(lP ops.size order aE&&wa P ops aE) with
 | false=>
   rw [av] at ag;simp only [arB] at ag;cases jI:(lP ops.size order aE&&C9 P ops order aE) with
   | false=>
     rw [jI] at ag;simp only [arB] at ag;cases J1:lP ops.size order aE with
     | false=>rw [J1] at ag;exact ag.elim
     | true=>
       rw [J1] at ag;simp only [aru] at ag;exact akm cN bF cf dL J1 ag k s
   | true=>
     rw [jI] at ag;simp only [aru] at ag;simp only [arp] at jI;exact acv cN bF cf dL jI.1 jI.2 ag k s
 | true=>
   rw [av] at ag;simp only [aru] at ag;simp only [arp] at av;obtain ⟨hL,hp⟩:=av;unfold lP at hL;simp only [arp,arZ] at hL;obtain ⟨pt,yS,BX,BY⟩:=hL;have iv:∀k,k<ops.size->posOf aE k<ops.size/\order[posOf aE k]? =some k:=by
    intro k aB;have aF:aE[k]? =some (posOf aE k):=by unfold posOf;rw [ars (by omega)];rfl
    have:=vh BX aF;rw [arV] at this;exact ⟨by have:=(arL.1 this).1;omega,this⟩
   have lO:∀p,p<ops.size->∃i,i<ops.size/\posOf aE i=p:=by intro p ag;have aF:order[p]? =some (order[p]'(by omega)):=ars (by omega);have:=vh BY aF;rw [arV] at this;refine ⟨order[p]'(by omega),by have:=(arL.1 this).1;omega,?_⟩;unfold posOf;rw [this];rfl
   have MM:∀j o,ops[j]? =some o->ee P o=true->posOf aE j ∈ hN P aE 0 ops.toList:=fun j o aa ad=>by simpa using zf (aE:=aE) (i:=0) (j:=j) (l:=ops.toList) (by simpa using aa) ad
   have anU:ops.size ∈ hN P aE 0 ops.toList:=by simpa using F2 (P:=P) (aE:=aE) (l:=ops.toList) (i:=0)
   have WJ:∀N M,∀s ∈ hN P aE 0 ops.toList,(s=ops.size\/(s=N/\M=N))\/∃k o,ops[k]? =some o/\ee P o=true/\s=posOf aE k:=fun N M s aU=>by
    rcases u6 aU with h | ⟨j,o,aa,ad,aH⟩
    . exact .inl (.inl (by simpa using h))
    . exact .inr ⟨j,o,by simpa using aa,ad,by simpa using aH⟩
   have SN:∀i o,ops[i]? =some o->∃cS,(eK [] ops.toList)[i]? =some cS/\m' i o=true/\(posOf aE i<ops.size->
    ∀k ok,ops[k]? =some ok->posOf aE k<ops.size->∃mk,(eK [] ops.toList)[k]? =some mk/\pI i cS (b1 ops o) o.dst k mk ok (Nat.blt (posOf aE k) (posOf aE i))=true/\(eV P o.op=true->ee P ok=true->posOf aE k<posOf aE i->fO cS k=true\/(false=true/\lI o=true/\lI ok=true))):=by
    intro i o aw;obtain ⟨cS,g1,g2,g3⟩:=Q6 hp i o aw
    exact ⟨cS,g1,g2,fun _ k ok aB _=>by
     obtain ⟨mk,du,e3,y3⟩:=g3 k ok aB
     exact ⟨mk,du,e3,fun a b c=>.inl (y3 a b c)⟩⟩
   have main:∀(q:Dh),
    (∀es nz N,es.length=N->N<=ops.size->(∀i o,ops[i]? =some o->posOf aE i<N->∃e,es[posOf aE i]? =some e/\(cI P ar ops o).run call e.r e.h=.val e.v (cg es nz (posOf aE i+1)))->
      (N<ops.size->∃i0 gX,ops[i0]? =some gX/\posOf aE i0=N/\ee P gX=true)->q.run call es nz=true->∀j o,ops[j]? =some o->looks o.op=true->eV P o.op=false->posOf aE j<N->∃e,es[posOf aE j]? =some e/\∀s ∈ hN P aE 0 ops.toList,
      tm P (eK [] ops.toList) ops.toList aE j (((eK [] ops.toList)[j]?).getD 0) s=true->∃ab,(cI P ar ops o).run call e.r (cg es nz s)=.val e.v ab)->
    oc aA E ar (Q .normal) Q (Ev ops order aE (fx P ar ops (hy ops order)) q call r h)->(Code.region id ops true).wpIn (ca rd) 0 P Q a w:=by
    intro q uE cV;unfold Ev at cV;cases cE:(fx P ar ops (hy ops order)).run call r h with
    | fail=>rw [cE] at cV;exact cV.elim
    | ok es eC a8=>
      rw [cE] at cV;simp only at cV;cases ay:q.run call es a8 with
      | false=>rw [ay] at cV;exact cV.elim
      | true=>
        rw [ay] at cV;simp only [aru] at cV;obtain ⟨al,ao,aK,bG⟩:=vt cE;have hlen:es.length=ops.size:=by rw [al,qD,pt]
        have hZ:∀i o,ops[i]? =some o->posOf aE i<ops.size->∃e,es[posOf aE i]? =some e/\(cI P ar ops o).run call e.r e.h=.val e.v (cg es a8 (posOf aE i+1))/\eo es eC (posOf aE i+1)=(fD o.dst).run e.r e.v:=
         fun i o aW _=>bG _ o (nQ (iv i (art.1 aW).1).2 aW)
        have C:Cert P ar ops (fun _=>call) es r h eC a8 (hN P aE 0 ops.toList) order aE ops.size ops.size false:=
         ⟨hlen,arv _,arv _,iv,lO,ao,aK,hZ,SN,anU,MM,WJ _ _,
           fun j o aa ad aH bw=>by obtain ⟨e,g1,g2⟩:=uE es a8 _ hlen (arv _) (fun i o aW aw=>by obtain ⟨e,bN,z2,_⟩:=hZ i o aW aw;exact ⟨e,bN,z2⟩) (fun h=>by omega) ay j o aa ad aH bw;exact ⟨e,g1,fun s aU hm=>by obtain ⟨ab,g3⟩:=g2 s aU hm;exact ⟨_,ab,⟨cf,dL⟩,g3⟩⟩,
           fun h=>absurd h (asT _),fun h=>absurd h (asT _)⟩
        exact I8 cN bF cf dL k s C (fun _=>cV) (fun _ _ _ _ _ _ _ h=>absurd h (asT _)) (fun h=>absurd h (asT _))
    | cP es eC a8 v ab=>
      rw [cE] at cV;simp only at cV;cases ay:(L6 ops order aE es.length&&q.run call es a8) with
      | false=>rw [ay] at cV;exact cV.elim
      | true=>
        rw [ay] at cV;simp only [aru] at cV;simp only [arp] at ay;obtain ⟨wR,ay⟩:=ay;obtain ⟨ao,aK,bG,gX,cK,ev,h6⟩:=WK cE;have aS:es.length<ops.size:=by have:=(arL.1 cK).1;rw [qD,pt] at this;exact this
        obtain ⟨i0,wI,j0⟩:=lO es.length aS;have cA:ops[i0]? =some ops[i0]:=arO wI;have qj:=(iv i0 wI).2;rw [j0] at qj;have afZ:gX=ops[i0]:=by have:=nQ qj cA;rw [cK] at this;cases this;rfl
        subst afZ;unfold L6 at wR;rw [qj] at wR;simp only at wR;obtain ⟨m0,S1,_⟩:=qW wR i0 ops[i0] (by simp);have Tu:∀k ok,ops[k]? =some ok->∃mk,(eK [] ops.toList)[k]? =some mk/\(es.length<posOf aE k->fO mk i0=true)/\(gH ok=true->posOf aE k<es.length->fO m0 k=true):=by
         intro k ok aB;obtain ⟨mk,bN,z2⟩:=qW wR k ok (by simpa using aB);simp only [arV,arp] at z2;refine ⟨mk,bN,fun aF=>?_,fun bs ax=>?_⟩
         . have:=z2.1;rw [show Nat.blt es.length (posOf aE k)=true from by rw [arS];exact aF] at this;exact this
         . have:=z2.2;rw [bs,show Nat.blt (posOf aE k) es.length=true from by rw [arS];exact ax,S1] at this;exact this
        have yK:ee P ops[i0]=true:=by obtain ⟨bJ,bO⟩:=UE (P:=P) ev;unfold ee;rw [bJ,bO];rfl
        have hZ:∀i o,ops[i]? =some o->posOf aE i<es.length->∃e,es[posOf aE i]? =some e/\(cI P ar ops o).run call e.r e.h=.val e.v (cg es a8 (posOf aE i+1))/\eo es eC (posOf aE i+1)=(fD o.dst).run e.r e.v:=
         fun i o aW ax=>bG _ o ax (nQ (iv i (art.1 aW).1).2 aW)
        have C:Cert P ar ops (fun _=>call) es r h eC a8 (hN P aE 0 ops.toList) order aE es.length ops.size false:=
         ⟨rfl,Nat.le_of_lt aS,Nat.le_of_lt aS,iv,lO,ao,aK,hZ,SN,by rw [<-j0];exact MM i0 _ cA yK,MM,WJ _ _,
           fun j o aa ad aH bw=>by obtain ⟨e,g1,g2⟩:=uE es a8 _ rfl (Nat.le_of_lt aS) (fun i o aW aw=>by obtain ⟨e,bN,z2,_⟩:=hZ i o aW aw;exact ⟨e,bN,z2⟩) (fun _=>⟨i0,_,cA,j0,yK⟩) ay j o aa ad aH bw;exact ⟨e,g1,fun s aU hm=>by obtain ⟨ab,g3⟩:=g2 s aU hm;exact ⟨_,ab,⟨cf,dL⟩,g3⟩⟩,
           fun h=>absurd h (asT _),fun _ _=>⟨i0,_,m0,cA,j0,ev,S1,fun k ok mk aB aF Ko=>by
            obtain ⟨mk',bN,z2,_⟩:=Tu k ok aB;rw [Ko] at bN;cases bN;exact z2 aF,fun k ok aB bs ax=>by
            obtain ⟨mk',bN,_,z3⟩:=Tu k ok aB;exact z3 bs ax,v,ab,h6⟩⟩
        refine I8 cN bF cf dL k s C (fun h=>absurd h (by omega)) (fun au bm w' x v1 aa g1 _ _ g3 g4 g5 g6=>?_) (fun h=>absurd h (asT _));obtain ⟨i1,da,bN,z2,z3⟩:=g3;have:i1=i0:=C.xp (art.1 bN).1 wI (by rw [z2,j0]);subst this;rw [cA] at bN;cases bN;rw [h6] at z3;cases z3;exact cV au bm w' x g1 g4 g5 g6
   cases ax:sw P ops.toList with
   | false=>
     rw [ax] at ag;have none:∀(l:List Oper),sw P l=false->∀(j:Nat) (o:Oper),l[j]? =some o->eV P o.op=false:=by
      intro l
      induction l with
      | nil=>intro _ j o h;simp at h
      | cons x l bc=>
        intro h j o aW;simp only [sw,as9] at h;cases j with
        | zero=>simp only [arG,arq] at aW;subst aW;exact h.1
        | succ j=>exact bc h.2 j o (by simpa using aW)
     refine main _ (fun es nz N hlen hle hZ Tm _ j o aW eA ay BQ=>?_) ag;have JG:N=ops.size:=by
      rcases asO N ops.size with aS | iH
      . obtain ⟨i0,gX,bN,z2,z3⟩:=Tm aS;have:=none _ ax i0 gX (by simpa using bN);unfold ee at z3;rw [this] at z3;cases z3
      . omega
     obtain ⟨e,ck,cB⟩:=hZ j o aW BQ;refine ⟨e,ck,fun s aU _=>?_⟩;have iU:s=ops.size:=by
      rcases u6 aU with h | ⟨FY,b9,aa,ad,aH⟩
      . simpa using h
      . have:=none _ ax FY b9 aa;unfold ee at ad;rw [this] at ad;cases ad
     have flat:∀d,d<=ops.size->cg es nz d=cg es nz 0:=by
      intro d
      induction d with
      | zero=>intro _;rfl
      | succ d bc=>
        intro aI;obtain ⟨i,wJ,oC⟩:=lO d (by omega);have cA:ops[i]? =some ops[i]:=arO wJ;obtain ⟨acO,bX,bA⟩:=hZ i ops[i] cA (by omega);rw [oC] at bX bA;have c_:eV P ops[i].op=false:=none _ ax i _ (by simp);rw [(v_ c_ bA).1,<-bc (by omega)];simp [cg,bX]
     have:e.h=cg es nz s:=by rw [iU,flat ops.size (arv _),<-flat (posOf aE j) (by omega)];simp [cg,ck]
     rw [<-this];exact ⟨_,cB⟩
   | true=>
     rw [ax] at ag;refine main _ (fun es nz N hlen hle hZ Tm KF j o aW eA ay BQ=>?_) ag;obtain ⟨e,ck,_⟩:=hZ j o aW BQ;have:=Ir KF j o (by simpa using aW) eA ay e (by simpa using ck);exact ⟨e,ck,by simpa using this⟩
end
def toExit:cT->Exit
 | .normal=>.normal
 | .exit id=>.exit id
 | .ret=>.ret
def Yt (C:Ctx):Prop:=
 ∀f p args h v ab,C.Md f=some p->p.run args h=.val v ab->(∃fn,C.P.funcs[f]? =some fn/\fn.body.isSome=true)/\∀(aA:Fr) E w xs,bh E args xs->ba aA E h w->
  Calls C.P f xs.toArray w fun e w'=>∃au x,e=.returned x/\E.le au/\Rel au v x/\ba aA au ab w'
def XT (C:Ctx):Prop:=
 ∀f p args h v ab,C.ext f=some p->p.run args h=.val v ab->∀(aA:Fr) E w xs,bh E args xs->ba aA E h w->
  ∃au x w',(callFunc f xs.toArray).run C.P w=.ok (.value x) w'/\E.le au/\Rel au v x/\ba aA au ab w'
def pT (C:Ctx):Prop:=Yt C/\XT C
theorem p6 {P:Program} {rd:Option Nat} (m:Machine):m.fenced P (ca rd):=fenced_wide P m
def Df (rd:Option Nat) (P:Program) (c:Code) (Q:Exit->Act->World->Prop) (a:Act) (w:World):Prop:=
 match c with
 | .loop x=>∀(b:Frame) (k:List Item) (cs:List Frame),b.roundOf=rd->∃e bm w',Q e bm w'/\ArrivesIn (Machine.fenced P (ca rd)) P (lone (b.atR a (.code x::.inLoop x::k)) cs w) b k cs e bm w'
 | c=>c.wpIn (ca rd) 0 P Q a w
theorem Df.wp {rd:Option Nat} {P:Program} {c:Code} {Q:Exit->Act->World->Prop} {a:Act} {w:World} (h:Df rd P c Q a w):c.wpIn (ca rd) 0 P Q a w:=by
 cases c with
 | loop x=>
   intro b k cs kt _ _;obtain ⟨e,bm,w',q,r⟩:=h b k cs kt;exact ⟨e,bm,w',q,.of_steps (.one (p6 _) stepR_loop) r⟩
 | _=>exact h
def x3 (aA:Fr) (E:Env) (ar:Nat) (Q:Exit->Act->World->Prop):mu->Prop
 | .ok e r h=>∀au bm w',E.le au->fg au ar r bm->ba aA au h w'->Q (toExit e) bm w'
 | .cP v r h=>∀au bm w' x,E.le au->fg au ar r bm->Rel au v x->ba aA au h w'->Q (.panic (qF x)) bm w'
 | .fail=>False
theorem x3.up {aA:Fr} {E au:Env} (h:E.le au) {ar:Nat} {Q:Exit->Act->World->Prop} {x:mu} (k:x3 aA E ar Q x):x3 aA au ar Q x:=by
 cases x with
 | ok e r a8=>exact fun bC a w ad=>k bC a w (h.trans ad)
 | cP v r a8=>exact fun bC a w x ad=>k bC a w x (h.trans ad)
 | fail=>exact k
def Ns (P:Program) (ar:Nat) (c:Code) (run:bI->ae->mu):Prop:=
 ∀(rd:Option Nat) (aA:Fr) r h,(rd=none\/noMark c=true)->∀E a w,fg E ar r a->ba aA E h w->∀Q:Exit->Act->World->Prop,x3 aA E ar Q (run r h)->Df rd P c Q a w
def tX (P:Program) (ex:h9):Prop:=∀ar c,Ns P ar c (ex ar c)
def xw (tmps:Array Value):ResultVar->Sem Value
 | .tmp t=>pure (tmps.getD t undef)
 | .cell b t=>do loadVar t (<-asAddr (tmps.getD b undef))
theorem Mv {P:Program} {aA:Fr} {E:Env} {ar:Nat} {r:bI} {h:ae} {a:Act} {w:World} (k:RegRel0 E ar r a) (s:ba aA E h w):∀{l:List ResultVar} {af:List V},(lb P ar l).run r h=some af->
 ∃xs,bh E af xs/\(l.mapM (xw a.tmps)).run P w=.ok xs w
 | [],af,he=>by simp only [lb,arq] at he;subst he;exact ⟨[],rfl,rfl⟩
 | .tmp t::l,af,he=>by
   simp only [lb] at he;cases aq:(Nat.ble t top&&Nat.blt t ar) with
   | false=>rw [aq] at he;cases he
   | true=>
     rw [aq] at he;simp only [aru] at he;simp only [arp,arH] at aq;cases aD:(lb P ar l).run r h with
     | none=>rw [aD] at he;cases he
     | some us=>
       rw [aD] at he;simp only [arq] at he;subst he;obtain ⟨xs,aa,ad⟩:=Mv k s aD;refine ⟨_::xs,by simp only [bh];exact ⟨_,_,rfl,k.an t aq.1,aa⟩,?_⟩;rw [List.mapM_cons,Sem.run_bind];simp only [xw,Sem.run_pure,Result.andThen_ok,Sem.run_bind,ad]
 | .cell b t::l,af,he=>by
   simp only [lb] at he;cases aq:(Nat.ble b top&&Nat.blt b ar) with
   | false=>rw [aq] at he;cases he
   | true=>
     rw [aq] at he;simp only [aru] at he;simp only [arp,arH] at aq;cases bt:(qz P t).run h (T.get .bad (az b) r) with
     | none=>rw [bt] at he;cases he
     | some v=>
       rw [bt] at he;simp only at he;cases aD:(lb P ar l).run r h with
       | none=>rw [aD] at he;cases he
       | some us=>
         rw [aD] at he;simp only [arq] at he;subst he;obtain ⟨xs,aa,ad⟩:=Mv k s aD;obtain ⟨Y,_,cQ,A,lA,fr⟩:=Ur (P:=P) s (k.an b aq.1) bt;refine ⟨Y::xs,by simp only [bh];exact ⟨_,_,rfl,cQ,aa⟩,?_⟩;rw [List.mapM_cons,Sem.run_bind];simp only [xw,lA,asAddr,Sem.run_bind,Sem.run_pure,Result.andThen_ok,fr,ad]
theorem Oi:∀(args:List V) (i:Nat) (t:bI) (j:Nat),i+args.length<=top+1->j<=top->
 T.get .bad (az j) (nq i args t)=if i<=j/\j<i+args.length then (args[j-i]?).getD .bad else T.get .bad (az j) t
 | [],i,t,j,_,_=>by
   have:¬(i<=j/\j<i):=by omega
   simp [nq,this]
 | v::af,i,t,j,h,bp=>by
   simp only [arA] at h ⊢;rw [nq,Oi af _ _ _ (by omega) bp];by_cases aa:i+1<=j/\j<i+1+af.length
   . rw [arz aa,arz (by omega)];have:j-i=(j - (i+1))+1:=by omega
     rw [this,ash]
   . rw [arw aa,T.ih];by_cases ad:j=i
     . subst ad;rw [arz rfl,arz (by omega)];simp
     . rw [arw (fun e=>ad (h5 e).symm),arw (by omega)]
theorem alA {E:Env} {af:List V} {xs:List Value} (h:bh E af xs) (fn:Func) (a:Act) (P:Program) (w:World)
 (aD:(fn.results.toList.mapM (xw a.tmps)).run P w=.ok xs w):∃x,(results fn a.tmps).run P w=.ok x w/\Rel E (oneOf af) x:=by
 have s3:(fn.results.mapM (xw a.tmps)).run P w=.ok xs.toArray w:=by rw [Array.mapM_eq_mapM_toList,Sem.run_map,aD];rfl
 have JS:results fn a.tmps=(do
  let af <-fn.results.mapM (xw a.tmps)
  pure (if h:af.size=1 then af[0] else .tuple af)):=by
  unfold results
  have:(fun x=>match x with
   | ResultVar.tmp t=>(pure (a.tmps.getD t undef):Sem Value)
   | ResultVar.cell b t=>do loadVar t (<-asAddr (a.tmps.getD b undef)))=xw a.tmps:=by
   funext x;cases x<;>rfl
  rw [<-this];rfl
 have yW:(results fn a.tmps).run P w=.ok (if h:xs.toArray.size=1 then xs.toArray[0] else .tuple xs.toArray) w:=by rw [JS,Sem.run_bind,s3];rfl
 refine ⟨_,yW,?_⟩
 match af,h with
 | [],h=>
   simp only [bh] at h;subst h;simp only [oneOf,Rel];exact ⟨#[],rfl,rfl⟩
 | [v],h=>
   simp only [bh] at h;obtain ⟨y,cx,rfl,a6,rfl⟩:=h;simpa [oneOf] using a6
 | v::u::af,h=>
   have ax:=h.length;have c_:¬xs.toArray.size=1:=by simp at ax ⊢;omega
   rw [dif_neg c_];simp only [oneOf,Rel];exact ⟨_,rfl,by simpa using h⟩
section
variable {C:Ctx}
theorem Oh:∀(args:List V) (i:Nat) (t:bI),i+args.length<=top+1->T.get .bad eN (nq i args t)=T.get .bad eN t
 | [],_,_,_=>rfl
 | v::af,i,t,h=>by simp only [arA] at h;simp only [nq];rw [Oh af (i+1) _ (by omega),T.ih,arw (xm (by omega))]
theorem Rr {E:Env} {ar:Nat} {args:List V} {xs:List Value} (ax:bh E args xs) (kS:args.length<=ar) (fk:ar<=top):
 fg E ar (nq 0 args .e) {tmps:=xs.toArray++Array.replicate (ar-xs.toArray.size) undef,defers:=[]}:=by
 have hlen:=ax.length;refine ⟨⟨by simp;omega,fun t aG=>?_⟩,?_⟩
 . rw [Oi _ _ _ _ (by omega) aG];by_cases aS:t<args.length
   . rw [arz (by omega),atH,ars aS];obtain ⟨y,a6,cQ⟩:=ax.get t args[t] (ars aS);simp only [ar0];have:(xs.toArray++Array.replicate (ar-xs.toArray.size) undef).getD t undef=y:=by
      rw [arQ,atf (by simp;omega)];simp [a6]
     rw [this];exact cQ
   . rw [arw (by omega)];simp [Rel]
 . rw [Oh _ _ _ (by omega)];simp [lY]
def lq (E:Env) (u:Option V) (m:FrameMode):Prop:=
 match u with
 | none=>m=.returning
 | some v=>∃x,Rel E v x/\m=.panicking (qF x)
theorem lq.mono {E au:Env} (h:E.le au) {u:Option V} {m:FrameMode} (k:lq E u m):lq au u m:=by
 cases u with
 | none=>exact k
 | some v=>obtain ⟨x,aa,ad⟩:=k;exact ⟨x,Rel.mono h _ _ aa,ad⟩
theorem lq.settle {E:Env} {u:Option V} {m:FrameMode} (k:lq E u m):settle m=m:=by
 cases u with
 | none=>simp only [lq] at k;subst k;rfl
 | some v=>obtain ⟨x,aa,rfl⟩:=k;rfl
theorem lq.run {E:Env} {u:Option V} {m:FrameMode} (k:lq E u m):m≠.run:=by
 cases u with
 | none=>simp only [lq] at k;subst k;simp
 | some v=>obtain ⟨x,aa,rfl⟩:=k;simp
def Ao (P:Program) (kN:vF):Prop:=
 ∀f args u h fE ab,kN f args u h=.go fE ab->(∃fn,P.funcs[f]? =some fn/\fn.body.isSome=true)/\
  ∀(aA:Fr) E w xs m,bh E args xs->lq E u m->ba aA E h w->CallsDIn (ca none) 0 P f xs.toArray m w fun e dj w'=>∃au x,e=.returned x/\E.le au/\lq au fE (settle dj)/\ba aA au ab w'
theorem ba.gone {aA:Fr} {E:Env} {h:ae} {w w':World} (s:ba aA E h w) {b:aM} {p:ju} (il:(h.get b).own=true) (ag:E b=some p) (cG:aA.w.heap.size<=p.aZ)
 (aS:w.heap.size<=w'.heap.size) (nF:∀j,j≠p.aZ->w'.heap[j]? =w.heap[j]?) (pv:w'.os=w.os) (aG:w'.tape=w.tape) (aW:w'.output=w.output):ba aA E (h.set b .dead) w':=
 s.set il ag cG aS nF pv aG aW (fun _ _ _ e=>by cases e) trivial
theorem Lm {P:Program} {kN:vF} (bF:eg P) (kV:Ao P kN) {aA:Fr} {fn:Func} {tmps:Array Value} {R:Ending->World->Prop}:∀(af:List V) (ds:List Deferred) (E:Env) (u:Option V) (h:ae) (w:World) (m:FrameMode) (fE:Option V) (ab:ae),
 mY kN af u h=.go fE ab->n1 E af ds->lq E u m->ba aA E h w->(∀au dj w',E.le au->lq au fE dj->ba aA au ab w'->LeavesInM (ca none) 0 P fn tmps R [] dj w')->LeavesInM (ca none) 0 P fn tmps R ds m w
 | [],ds,E,u,h,w,m,fE,ab,he,aI,hu,s,cQ=>by simp only [mY,ub.go.injEq] at he;obtain ⟨rfl,rfl⟩:=he;simp only [n1] at aI;subst aI;exact cQ E m w (Env.le.refl E) hu s
 | v::af,ds,E,u,h,w,m,fE,ab,he,aI,hu,s,cQ=>by
   obtain ⟨d,mC,rfl,Fh,Fi⟩:=aI;cases v with
   | func f args=>
     simp only [mY] at he;cases aq:kN f args u h with
     | fail=>rw [aq] at he;cases he
     | go Hn aa=>
       rw [aq] at he;simp only at he;obtain ⟨av,cap,aG,ax⟩:=Fh;obtain ⟨⟨adB,ik,ah⟩,cf⟩:=kV _ _ _ _ _ _ aq;refine ⟨hu.run,.inr ⟨fun h=>by simp at h,_,cap,f,d.args++cap,aG,?_,fun _ _=>trivial,?_⟩⟩
       . rw [aG];simp only [invoke];exact vp bF ik ah _ w
       . have e:d.args++cap=(d.args.toList++cap.toList).toArray:=by apply ati;simp
         rw [e];refine CallsDIn.mono (cf aA E w _ m ax hu s) fun e m1 bX ay=>?_;obtain ⟨gO,x,rfl,al,ao,aK⟩:=ay;exact Lm bF kV af mC gO Hn aa bX (settle m1) fE ab he (Fi.mono al) ao aK fun bC m2 bA ck cB eL=>cQ bC m2 bA (al.trans ck) cB eL
   | ptr b off=>
     simp only [mY] at he;cases aF:h.get b<;>rw [aF] at he<;>simp only at he<;>try (cases he;done)
     obtain ⟨p,ag,ae_⟩:=Fh;have ah:=s.at ag;rw [aF] at ah;obtain ⟨p',gF,cG,a8⟩:=ah;rw [ag] at gF;cases gF;have k0:=(art.1 a8).1
     let bX:World:={w with heap:=w.heap.setIfInBounds p.aZ (.deferred none)}
     have agA:(Instr.takeDeferred p.aZ).run P w=.ok [] bX:=by
      have ct:(getObj p.aZ).run P w=.ok (.deferred (some [])) w:=by simp only [getObj,Sem.run,a8]
      have qo:(setObj p.aZ (.deferred none)).run P w=.ok () bX:=by simp only [setObj,Sem.run,a8];rfl
      simp only [Instr.takeDeferred,Sem.run_bind,ct,Result.andThen_ok,qo,Sem.run_pure]
     have s1:ba aA E (h.set b .dead) bX:=s.gone (by rw [aF];rfl) ag cG (by simp [bX]) (fun j bp=>by simp only [bX,arN];rw [arw (fun e=>bp e.symm)]) rfl rfl rfl;refine ⟨hu.run,.inl ⟨p.aZ,bX,by rw [ae_],agA,?_⟩⟩;exact Lm bF kV af mC E u _ bX m fE ab he Fi hu s1 cQ
   | _=>simp [mY] at he
theorem Mz {P:Program} {aA:Fr} {E:Env} {fn:Func} {r:bI} {h:ae} {a:Act} {w:World} (k:RegRel0 E fn.ntmps r a) (s:ba aA E h w) {af:List V} (bt:(lb P fn.ntmps fn.results.toList).run r h=some af):
 ∃x,(results fn a.tmps).run P w=.ok x w/\Rel E (oneOf af) x:=by
 obtain ⟨cx,ck,cB⟩:=Mv (P:=P) k s bt;exact alA ck fn a P w cB
section
variable {C:Ctx}
theorem aa' (ex:h9):g_ C.P (sF C ex):=by intro f args h v ab he;trivial
def sn (aA:Fr) (E:Env) (R:Ending->World->Prop):a'->Prop
 | .val v ab=>∀au x w',E.le au->Rel au v x->ba aA au ab w'->R (.returned x) w'
 | .cP v ab=>∀au x w',E.le au->Rel au v x->ba aA au ab w'->R (.panicked (qF x)) w'
 | .fail=>False
theorem sn.up {aA:Fr} {E au:Env} (h:E.le au) {R:Ending->World->Prop} {x:a'} (k:sn aA E R x):sn aA au R x:=by
 cases x with
 | val v a8=>exact fun bC a w ad=>k bC a w (h.trans ad)
 | cP v a8=>exact fun bC a w ad=>k bC a w (h.trans ad)
 | fail=>exact k
theorem EO (bF:eg C.P) {kN:vF} (kV:Ao C.P kN) {aA:Fr} {fn:Func} {E:Env} {r:bI} {u:Option V} {h:ae} {a:Act} {w:World} {m:FrameMode} {R:Ending->World->Prop}
 (k:fg E fn.ntmps r a) (hu:lq E u m) (s:ba aA E h w)
 (ag:sn aA E R (finish (lb C.P fn.ntmps fn.results.toList) r (mY kN (T.get .bad eN r).list u h))):LeavesInM (ca none) 0 C.P fn a.tmps R a.defers m w:=by
 cases ax:mY kN (T.get .bad eN r).list u h with
 | fail=>rw [ax] at ag;exact ag.elim
 | go fE ab=>
   rw [ax] at ag;refine Lm bF kV _ a.defers E u h w m fE ab ax k.defers.list hu s fun au dj w' al ao aK=>?_;cases fE with
   | some v=>
     obtain ⟨x,ak,rfl⟩:=ao;exact ag au x w' al ak aK
   | none=>
     simp only [lq] at ao;subst ao;simp only [finish] at ag;cases bt:(lb C.P fn.ntmps fn.results.toList).run r ab with
     | none=>rw [bt] at ag;exact ag.elim
     | some af=>
       rw [bt] at ag;obtain ⟨x,ck,cB⟩:=Mz (P:=C.P) (k.mono al).toRegRel0 aK bt;exact ⟨x,ck,ag au x w' al cB aK⟩
theorem QV {res:x4} {u fE:Option V} {x:mu} {ab:ae} (he:Et res u x=.go fE ab):∃e r af,x=.ok e r ab/\(e=.normal\/e=.ret)/\T.get .bad eN r=.bad/\res.run r ab=some af/\fE=u:=by
 unfold Et at he;cases x with
 | fail=>cases he
 | cP _ _ _=>cases he
 | ok e r h=>
   have main:(bif (T.get .bad eN r).K8 then (match res.run r h with
    | some _=>ub.go u h
    | none=>.fail) else .fail)=.go fE ab->(e=.normal\/e=.ret)->∃cF a7 af,mu.ok e r h=.ok cF a7 ab/\(cF=.normal\/cF=.ret)/\T.get .bad eN a7=.bad/\res.run a7 ab=some af/\fE=u:=by
    intro he hY;cases ah:(T.get .bad eN r).K8 with
    | false=>rw [ah] at he;cases he
    | true=>
      rw [ah] at he;simp only [aru] at he;have kU:T.get .bad eN r=.bad:=by
       cases aF:T.get .bad eN r<;>rw [aF] at ah<;>first
        | rfl
        | cases ah
      cases bt:res.run r h with
      | none=>rw [bt] at he;cases he
      | some af=>
        rw [bt] at he;simp only [ub.go.injEq] at he;obtain ⟨rfl,rfl⟩:=he;exact ⟨e,r,af,rfl,hY,kU,bt,rfl⟩
   cases e with
   | normal=>exact main he (.inl rfl)
   | ret=>exact main he (.inr rfl)
   | exit id=>cases he
theorem amU {c:Code} {s:H7} (h:GQ c=some s):∃id da cw args types,c=.seq (.region id #[da,cw] false) s.rest/\da.dst=some s.d/\da.op=.call ⟨.builtin .recover,args,types⟩/\da.guard=none/\cw.dst=some s.e/\cw.op=.assign s.x/\cw.guard=none:=by
 unfold GQ at h
 split at h
 case h_2=>cases h
 rename_i id ops rest
 split at h
 case h_2=>cases h
 rename_i da cw ax
 split at h
 case h_2=>cases h
 rename_i d args types e x aa ad aH bw cM gb;cases h;have af5:ops=#[da,cw]:=by apply ati;simp [ax]
 subst af5;exact ⟨id,da,cw,_,_,rfl,aa,ad,aH,bw,cM,gb⟩
theorem acj (cN:C.P.follows .mixedOrders=true) (bF:eg C.P) {ex:h9} (hex:tX C.P ex):Ao C.P (Es C.P ex):=by
 intro f args u h fE ab he;unfold Es at he;cases av:C.P.funcs[f]? with
 | none=>rw [av] at he;cases he
 | some fn=>
   rw [av] at he;simp only at he;cases ah:fn.body with
   | none=>rw [ah] at he;cases he
   | some c=>
     rw [ah] at he;simp only at he;refine ⟨⟨fn,rfl,by rw [ah];rfl⟩,fun aA E w xs m ax hu s=>?_⟩;cases fk:Nat.ble fn.ntmps top with
     | false=>rw [fk] at he;cases he
     | true=>
       rw [fk] at he;simp only [aru] at he;rw [arH] at fk;unfold QW at he;cases kS:Nat.ble args.length fn.ntmps with
       | false=>rw [kS] at he;cases he
       | true=>
         rw [kS] at he;simp only [aru] at he;rw [arH] at kS;have k:=Rr ax kS fk;cases aD:GQ c with
         | none=>
           rw [aD] at he;simp only at he;obtain ⟨e,r,af,ak,hY,uG,bt,rfl⟩:=QV he;refine CallsDIn.mono (callsDIn_of_wp (R:=fun e w'=>∃au x,e=.returned x/\E.le au/\ba aA au ab w') av ah trivial ?_) fun cF dj w' ay=>?_
           . refine (hex fn.ntmps c none aA _ h (.inl rfl) E _ w k s _ ?_).wp;rw [ak];intro au bm w' al ao aK;have aI:bm.defers=[]:=by have:=ao.defers;rw [uG] at this;exact this
             obtain ⟨x,ck,cB⟩:=Mz (P:=C.P) ao.toRegRel0 aK bt;rcases hY with rfl | rfl<;>exact ⟨aI,x,ck,au,x,rfl,al,aK⟩
           . obtain ⟨rfl,au,x,rfl,al,aK⟩:=ay;exact ⟨au,x,rfl,al,by rw [hu.settle];exact hu.mono al,aK⟩
         | some db=>
           rw [aD] at he;simp only at he;cases hp:(eO fn.ntmps (some db.d)&&eO fn.ntmps (some db.e)) with
           | false=>rw [hp] at he;cases he
           | true=>
             rw [hp] at he;simp only [aru] at he;simp only [arp] at hp;obtain ⟨e,r,af,ak,hY,uG,bt,rfl⟩:=QV he;obtain ⟨id,da,cw,V3,rt,rfl,g1,g2,g3,g4,g5,g6⟩:=amU aD;refine callsDIn_of_wpSIn av ah trivial fun v' cs JQ=>wpSIn_seq (wpSIn_region ?_)
             obtain ⟨X,dr,oq,iG,dj,nD,agr⟩:∃X,Rel E (u.getD .nilIface) X/\∃oq,(match recoverD (v'::cs) with
              | some (v,abZ)=>v=X/\abZ=oq
              | none=>X=.nilIface/\oq=v'::cs)/\∃dj,oq={v' with mode:=dj}::cs/\settle dj=.returning:=by
              cases u with
              | none=>
                simp only [lq] at hu;subst hu;refine ⟨.nilIface,rfl,v'::cs,?_,.returning,?_,rfl⟩
                . simp only [recoverD,JQ];exact ⟨trivial,trivial⟩
                . rw [<-JQ]
              | some v=>
                obtain ⟨x,ak,rfl⟩:=hu;refine ⟨x,ak,{v' with mode:=.panicking [{v:=x,recovered:=true}]}::cs,?_,.panicking [{v:=x,recovered:=true}],rfl,rfl⟩;simp only [recoverD,JQ];exact ⟨trivial,trivial⟩
             have b3:=k.put hp.1 dr;have b5:=b3.put hp.2 (dH b3.toRegRel0 db.x);rw [<-g1] at b5;rw [<-g4] at b5
             have yX:=(hex fn.ntmps db.rest none aA _ h (.inl rfl) E _ w b5 s (fun cF bm w'=>bodyPostS C.P fn v' cs (fun e dj w'=>∃au x,e=.returned x/\E.le au/\lq au none (settle dj)/\ba aA au ab w') cF bm oq w') (by
              have:V8 db u (nq 0 args .e)=(fD cw.dst).run ((fD da.dst).run (nq 0 args .e) (u.getD .nilIface)) ((bV db.x).run ((fD da.dst).run (nq 0 args .e) (u.getD .nilIface))):=by rw [g1,g4];rfl
              rw [<-this,ak];intro au bm w' al ao aK;have aI:bm.defers=[]:=by have:=ao.defers;rw [uG] at this;exact this
              obtain ⟨x,ck,cB⟩:=Mz (P:=C.P) ao.toRegRel0 aK bt
              rcases hY with rfl | rfl<;>exact ⟨aI,dj,nD,x,ck,au,x,rfl,al,agr,aK⟩)).wp
             have Tr:=wpSIn_of_wpIn (F:=ca none) rfl yX;have qp:∀y,Region.wanted da y=true:=fun y=>by simp [Region.wanted,g3]
             have uW:∀y,Region.wanted cw y=true:=fun y=>by simp [Region.wanted,g6]
             have agn:∀(ρ:Operand->Value),(execOp ρ da).run C.P w=.ok .recover w:=fun ρ=>by obtain ⟨dst,op,type,pos,after,guard⟩:=da;simp only at g2;subst g2;rfl
             have B4:∀(ρ:Operand->Value),(execOp ρ cw).run C.P w=.ok (.value (ρ db.x)) w:=fun ρ=>by obtain ⟨dst,op,type,pos,after,guard⟩:=cw;simp only at g5;subst g5;rfl
             have cu:(#[da,cw]:Array Oper).size=2:=rfl;rw [cu];simp only [List.range_succ,List.range_zero,asb,arR,wpOpsSIn];have c9:(#[da,cw]:Array Oper)[0]? =some da:=rfl;have aJ:(#[da,cw]:Array Oper)[1]? =some cw:=rfl;rw [c9];simp only [qp,ar2,agn];refine ⟨fun _ _=>trivial,?_⟩;cases Th:recoverD (v'::cs) with
             | none=>
               rw [Th] at iG;obtain ⟨aeP,pq⟩:=iG;subst aeP pq;simp only [aJ,uW,ar2,B4];exact ⟨fun _ _=>trivial,Tr⟩
             | some M6=>
               obtain ⟨v,apL⟩:=M6;rw [Th] at iG;obtain ⟨rfl,rfl⟩:=iG;simp only [aJ,uW,ar2,B4];exact ⟨fun _ _=>trivial,Tr⟩
end
end
theorem WH:∀(xs:List V) (x:V),Hd (xs++[x])=some (xs,x)
 | [],x=>rfl
 | [y],x=>rfl
 | y::z::xs,x=>by have:=WH (z::xs) x;simp only [arR] at this ⊢;simp only [Hd,this]
theorem RegRel0.putAt {E:Env} {ar:Nat} {r:bI} {t:Array Value} {ds:List Deferred} (k:RegRel0 E ar r ⟨t,ds⟩) {d:Nat} (aI:d<ar) (aG:d<=top) {v:V} {x:Value} (bt:Rel E v x):
 RegRel0 E ar (T.put .bad v (az d) r) ⟨t.setIfInBounds d x,ds⟩:=by
 refine ⟨by simp only [Array.size_setIfInBounds];exact k.size,fun j bp=>?_⟩;rw [T.ih];have cu:=k.size;simp only at cu;by_cases h:d=j
 . subst h;rw [arz rfl];simp [arQ,cu,aI,bt]
 . rw [arw (fun e=>h (h5 e))];have:=k.an j bp;simpa [arQ,arN,h] using this
theorem VO {E:Env} {ar:Nat} {ds:List Deferred}:∀(bo:List Nat) (af:List V) (xs:List Value) (r:bI) (t:Array Value),tv ar bo=true->bh E af xs->RegRel0 E ar r ⟨t,ds⟩->
 RegRel0 E ar (xr bo af r) ⟨(bo.zip xs).foldl (fun t (p:Nat × Value)=>t.setIfInBounds p.1 p.2) t,ds⟩
 | [],af,xs,r,t,_,_,k=>by cases af<;>exact k
 | p::bo,[],xs,r,t,_,ax,k=>by simp only [bh] at ax;subst ax;exact k
 | p::bo,v::af,xs,r,t,ag,ax,k=>by obtain ⟨y,cx,rfl,a6,ax⟩:=ax;simp only [tv,as_,arp,arS,arH] at ag;simp only [xr,List.zip_cons_cons,List.foldl_cons];exact VO bo af cx _ _ ag.2 ax (k.putAt ag.1.1 ag.1.2 a6)
theorem amy {E:Env} {ar:Nat} {ds:List Deferred} {bo:Array Nat} {af:List V} {xs:List Value} {r:bI} {t:Array Value} (ag:tv ar bo.toList=true) (ax:bh E af xs) (k:RegRel0 E ar r ⟨t,ds⟩):
 RegRel0 E ar (xr bo.toList af r) ⟨(bo.zip xs.toArray).foldl (fun t (p:Nat × Value)=>t.setIfInBounds p.1 p.2) t,ds⟩:=by
 rw [<-Array.foldl_toList,Array.toList_zip];exact VO bo.toList af xs r t ag ax k
theorem RegRel0.Zz {E:Env} {ar:Nat} {r:bI} {a:Act} (k:RegRel0 E ar r a) (v:V):RegRel0 E ar (T.put .bad v eN r) a:=
 ⟨k.size,fun t aG=>by rw [T.ih,arw (fun e=>xm aG e.symm)];exact k.an t aG⟩
section
variable {C:Ctx}
theorem adC (bF:eg C.P) (cN:C.P.follows .mixedOrders=true) {ex:h9} (hex:tX C.P ex) {f:FuncId} {args:List V} {h:ae} {aA:Fr} {E:Env} {w:World} {xs:List Value} (ax:bh E args xs) (s:ba aA E h w) {R:Ending->World->Prop}
 (ag:sn aA E R ((Jn C.P f).run ex args h)):(∃fn,C.P.funcs[f]? =some fn/\fn.body.isSome=true)/\Calls C.P f xs.toArray w R:=by
 unfold Jn at ag;cases av:C.P.funcs[f]? with
 | none=>rw [av] at ag;exact ag.elim
 | some fn=>
   rw [av] at ag;simp only at ag;cases ah:fn.body with
   | none=>rw [ah] at ag;exact ag.elim
   | some c=>
     rw [ah] at ag;simp only at ag;refine ⟨⟨fn,rfl,by rw [ah];rfl⟩,?_⟩;cases fk:Nat.ble fn.ntmps top with
     | false=>rw [fk] at ag;exact ag.elim
     | true=>
       rw [fk] at ag;simp only [aru] at ag;rw [arH] at fk;unfold RY at ag;cases kS:Nat.ble args.length fn.ntmps with
       | false=>rw [kS] at ag;exact ag.elim
       | true=>
         rw [kS] at ag;simp only [aru] at ag;rw [arH] at kS;have k:=Rr ax kS fk;have kV:=acj (C:=C) cN bF hex;refine sG.1 (callsIn_of_wp_marks (F:=ca none) (n:=0) av ah trivial ?_);refine (hex fn.ntmps c none aA _ h (.inl rfl) E _ w k s _ ?_).wp;cases aD:ex fn.ntmps c (nq 0 args .e) h with
         | fail=>rw [aD] at ag;exact ag
         | cP v r aa=>
           rw [aD] at ag;intro au bm w' x al ao aK bG;exact EO (u:=some v) bF kV ao ⟨x,aK,rfl⟩ bG (sn.up al ag)
         | ok e r aa=>
           rw [aD] at ag;intro au bm w' al ao aK;have main:sn aA E R (finish (lb C.P fn.ntmps fn.results.toList) r (mY (Es C.P ex) (T.get .bad eN r).list none aa))->LeavesInM (ca none) 0 C.P fn bm.tmps R bm.defers .returning w':=by intro ag;exact EO (u:=none) bF kV ao rfl aK (sn.up al ag)
           cases e with
           | normal=>exact main ag
           | ret=>exact main ag
           | exit id=>exact ag.elim
theorem ET (bF:eg C.P) (cN:C.P.follows .mixedOrders=true) (gR:pT C) {ex:h9} (hex:tX C.P ex) {f:FuncId} {args:List V} {h:ae} {aA:Fr} {E:Env} {w:World} {xs:List Value} (ax:bh E args xs) (s:ba aA E h w) {R:Ending->World->Prop}
 (ag:sn aA E R ((yx C f).run ex args h)):(∃fn,C.P.funcs[f]? =some fn/\fn.body.isSome=true)/\Calls C.P f xs.toArray w R:=by
 unfold yx at ag;cases ay:C.Md f with
 | none=>rw [ay] at ag;exact adC bF cN hex ax s ag
 | some p=>
   rw [ay] at ag;simp only at ag;cases aD:p.run args h with
   | fail=>rw [aD] at ag;exact ag.elim
   | cP _ _=>rw [aD] at ag;exact ag.elim
   | val v ab=>
     rw [aD] at ag;obtain ⟨aa,ad⟩:=gR.1 f p args h v ab ay aD;refine ⟨aa,(ad aA E w xs ax s).mono fun e w' ay=>?_⟩;obtain ⟨au,x,rfl,al,ao,aK⟩:=ay;exact ag au x w' al ao aK
theorem ba.loop {P:Program} {aA:Fr} {E:Env} {h:ae} {w:World} (s:ba aA E h w) {b:aM} {l eE:AL} {p:ju} {o b9:Loop} (aF:h.get b=.ft l) (ag:E b=some p) (cG:aA.w.heap.size<=p.aZ) (a8:w.heap[p.aZ]? =some (.loop o)) (aD:vM E eE b9):
 (setObj p.aZ (.loop b9)).run P w=.ok () {w with heap:=w.heap.setIfInBounds p.aZ (.loop b9)}/\ba aA E (h.set b (.ft eE)) {w with heap:=w.heap.setIfInBounds p.aZ (.loop b9)}:=by
 have k0:=(art.1 a8).1;refine ⟨by simp only [setObj,Sem.run,a8],s.set (p:=p) (by rw [aF];rfl) ag cG (by simp) (fun j bp=>?_) rfl rfl rfl (fun _ _ _ e=>by cases e) ?_⟩
 . simp only [arN];rw [arw (fun e=>bp e.symm)]
 . exact ⟨p,b9,ag,cG,by simp [k0],aD⟩
theorem run_getLoop {P:Program} {r:Nat} {w:World} {o:Loop} (a8:w.heap[r]? =some (.loop o)):(Instr.getLoop r).run P w=.ok o w:=by
 have:(getObj r).run P w=.ok (.loop o) w:=by simp only [getObj,Sem.run,a8]
 simp only [Instr.getLoop,Sem.run_bind,this,Result.andThen_ok,Sem.run_pure]
theorem am9 {aA:Fr} {E:Env} {h ab:ae} {w:World} {b:aM} {p:ju} {e:cT} {v:V} {P:Program} {R:Ending->World->Prop} {a:Act} (s:ba aA E h w) (ag:E b=some p) (he:C4 b e h=.val v ab)
 (cQ:∀x w',Rel E v x->ba aA E ab w'->R (.returned x) w'):roundPost P p.aZ R (toExit e) a w:=by
 unfold C4 at he;have ah:=s.at ag;cases aF:h.get b<;>rw [aF] at he ah<;>simp only at he<;>try (cases he;done)
 rename_i l;obtain ⟨p',o,gF,cG,a8,aD⟩:=ah;rw [ag] at gF;cases gF;have wF:=run_getLoop (P:=P) a8;obtain ⟨bH,c2,cz,cC,bK,ed,cy,b'⟩:=aD;cases e with
 | normal=>
   simp only [a'.val.injEq] at he;obtain ⟨rfl,rfl⟩:=he;obtain ⟨aa,ad⟩:=s.loop (P:=P) (eE:=⟨0,none,l.d,l.ar,l.r,l.bo,l.assign,l.body⟩) (b9:={o with state:=.ready,pending:=none}) aF ag cG a8 ⟨rfl,rfl,cz,cC,bK,ed,cy,b'⟩;refine ⟨.bool true,_,?_,cQ _ _ rfl ad⟩;simp only [Instr.endRound,Sem.run_bind,wF,Result.andThen_ok,Option.isNone_none,ar2,aa,Sem.run_pure]
 | ret=>
   simp only [a'.val.injEq] at he;obtain ⟨rfl,rfl⟩:=he;obtain ⟨aa,ad⟩:=s.loop (P:=P) (eE:=⟨2,some .ret,l.d,l.ar,l.r,l.bo,l.assign,l.body⟩) (b9:={o with state:=.done,pending:=some .ret}) aF ag cG a8 ⟨rfl,rfl,cz,cC,bK,ed,cy,b'⟩;refine ⟨.bool false,_,?_,cQ _ _ rfl ad⟩;simp only [Instr.endRound,Sem.run_bind,wF,Result.andThen_ok,Option.isNone_some,arK,ar5,aa,Sem.run_pure]
 | exit id=>
   simp only [a'.val.injEq] at he;obtain ⟨rfl,rfl⟩:=he;obtain ⟨aa,ad⟩:=s.loop (P:=P) (eE:=⟨2,some (.exit id),l.d,l.ar,l.r,l.bo,l.assign,l.body⟩) (b9:={o with state:=.done,pending:=some (.exit id)}) aF ag cG a8 ⟨rfl,rfl,cz,cC,bK,ed,cy,b'⟩;refine ⟨.bool false,_,?_,cQ _ _ rfl ad⟩;simp only [Instr.endRound,Sem.run_bind,wF,Result.andThen_ok,Option.isNone_some,arK,ar5,aa,Sem.run_pure]
theorem am' {P:Program} {ex:h9} (hex:tX P ex) {aA:Fr} {E:Env} {h ab:ae} {w:World} {args:List V} {xs:List Value} {b:aM} {p:ju} {v:V} (he:C3 ex args b h=.val v ab) (ax:bh E args xs) (s:ba aA E h w) (ag:E b=some p):
 ∃f tmps assign body,(Instr.yield p.aZ xs.toArray).run P w=.ok (.round p.aZ f tmps assign body) w/\
  RoundIn (ca none) 0 P p.aZ f tmps assign body w fun e w'=>∃au x,e=.returned x/\E.le au/\Rel au v x/\ba aA au ab w':=by
 unfold C3 at he;have ah:=s.at ag;cases aF:h.get b<;>rw [aF] at he ah<;>simp only at he<;>try (cases he;done)
 rename_i l;obtain ⟨p',o,gF,cG,a8,aD⟩:=ah;rw [ag] at gF;cases gF;obtain ⟨bH,c2,cz,cC,bK,ed,cy,b'⟩:=aD;obtain ⟨aq,he⟩:=kh he;simp only [arp,arZ] at aq;obtain ⟨bJ,bO,c3,hT⟩:=aq;have hlen:=ax.length;have hM:o.params.size=xs.length:=by rw [<-Array.length_toList,cz,hlen,bJ]
 refine ⟨o.fn,(o.params.zip xs.toArray).foldl (fun tmps (t,a)=>tmps.setIfInBounds t a) o.tmps,o.assign,o.body,?_,?_⟩
 . simp only [Instr.yield,Sem.run_bind,run_getLoop a8,Result.andThen_ok];rw [arw (by simp [hM])];rfl
 . rw [cC,bK];refine roundIn_of_wpIn (F:=ca none) trivial ?_;have j3:RegRel0 E l.ar l.r ⟨o.tmps,[]⟩:=⟨ed,cy⟩;rw [<-cz] at bO he;have b3:=(amy bO ax j3).Zz .bad;have k:fg E l.ar (T.put .bad .bad eN (xr o.params.toList args l.r)) ⟨(o.params.zip xs.toArray).foldl (fun t (p:Nat × Value)=>t.setIfInBounds p.1 p.2) o.tmps,[]⟩:=⟨b3,by rw [T.ih,arz rfl];simp [lY]⟩
   have agO:=hex l.ar l.assign (some p.aZ) aA _ h (.inr c3) E _ w k s (Exit.then (fun vW xK=>∃Xx,(Instr.beginRound p.aZ).run P xK=.ok () Xx/\
    l.body.wpIn (ca (some p.aZ)) 0 P (roundPost P p.aZ fun e w'=>∃au x,e=.returned x/\E.le au/\Rel au v x/\ba aA au ab w') vW Xx) (fun _ _ _=>False))
   refine (agO ?_).wp;cases ak:ex l.ar l.assign (T.put .bad .bad eN (xr o.params.toList args l.r)) h with
   | fail=>rw [ak] at he;cases he
   | cP _ _ _=>rw [ak] at he;cases he
   | ok e amI aa=>
     rw [ak] at he;cases e<;>simp only at he<;>try (cases he;done)
     intro gO bE bX al ao aK;unfold GZ at he;have kZ:=al _ _ ag;have kT:=aK.at kZ;cases SP:aa.get b<;>rw [SP] at he kT<;>simp only at he<;>try (cases he;done)
     rename_i e8;obtain ⟨ck,da,Ta,wo,rC,wT⟩:=kT;rw [kZ] at Ta;cases Ta;obtain ⟨cE,he⟩:=kh he;rw [arZ] at cE;obtain ⟨t1,t2,t3,t4,t5,t6,t7,t8⟩:=wT;obtain ⟨g1,g2⟩:=aK.loop (P:=P) (eE:=⟨1,e8.hz,e8.d,e8.ar,e8.r,e8.bo,e8.assign,e8.body⟩) (b9:={da with state:=.busy}) SP kZ wo rC ⟨rfl,t2,t3,t4,t5,t6,t7,t8⟩;refine ⟨{bX with heap:=bX.heap.setIfInBounds p.aZ (.loop {da with state:=.busy})},?_,?_⟩
     . have KG:da.state=.ready:=by rw [t1,cE];rfl
       simp only [Instr.beginRound,Sem.run_bind,run_getLoop rC,Result.andThen_ok,g1,KG,Sem.run_pure]
     . refine (hex l.ar l.body (some p.aZ) aA _ _ (.inr hT) gO _ _ ao g2 _ ?_).wp;cases y9:ex l.ar l.body amI (aa.set b (.ft ⟨1,e8.hz,e8.d,e8.ar,e8.r,e8.bo,e8.assign,e8.body⟩)) with
       | fail=>rw [y9] at he;cases he
       | cP _ _ _=>rw [y9] at he;cases he
       | ok aR aqX ad=>
         rw [y9] at he;simp only at he;intro bC a2 bA bN z2 z3;exact am9 z3 (bN _ _ kZ) he fun x w' du e3=>⟨bC,x,rfl,al.trans bN,du,e3⟩
theorem aa_ (cN:C.P.follows .mixedOrders=true) (bF:eg C.P) (gR:pT C) {ex:h9} (hex:tX C.P ex):gN C.P (sF C ex) where
 fn:=by
  intro aA f args h v ab av he E w xs ax s;unfold sF at he;rw [hG,arw av] at he;cases ak:C.ext f with
  | some p=>
    rw [ak] at he;simp only at he;cases aD:p.run args h with
    | fail=>rw [aD] at he;cases he
    | cP _ _=>rw [aD] at he;cases he
    | val v1 aa=>
      rw [aD] at he;simp only [a'.LO,a'.val.injEq] at he;obtain ⟨rfl,rfl⟩:=he;exact .inr (gR.2 f p args h _ _ ak aD aA E w xs ax s)
  | none=>
  rw [ak] at he;simp only at he;exact .inl (ET bF cN gR hex ax s (by rw [he];exact fun au x w' al ao aK=>⟨au,x,rfl,al,ao,aK⟩))
 cP:=by
  intro aA f args h v ab av he E w xs ax s;unfold sF at he;rw [hG,arw av] at he;cases ak:C.ext f with
  | some p=>
    rw [ak] at he;simp only at he;cases aD:p.run args h<;>rw [aD] at he<;>cases he
  | none=>
  rw [ak] at he;simp only at he;exact ET bF cN gR hex ax s (by rw [he];exact fun au x w' al ao aK=>⟨au,x,rfl,al,ao,aK⟩)
 Xz:=by intro aA args b h v ab he E w xs p ax s ag;unfold sF at he;rw [hG,arz rfl] at he;unfold MB at he;rw [WH] at he;exact am' hex he ax s ag
 XA:=by
  intro args h v ab he;unfold sF at he;rw [hG,arz rfl] at he;have aJ:∀b e h,C4 b e h≠.cP v ab:=by
   intro b e h he;unfold C4 at he
   split at he
   . cases e<;>cases he
   . cases he
  have aR:∀ar c b r h,GZ ex ar c b r h≠.cP v ab:=by
   intro ar c b r h he;unfold GZ at he
   split at he
   case h_2=>cases he
   rename_i l ax;cases aq:Nat.beq l.st 0 with
   | false=>rw [aq] at he;cases he
   | true=>
     rw [aq] at he;simp only [aru] at he
     split at he
     . exact aJ _ _ _ he
     . cases he
  have bP:∀xs b h,C3 ex xs b h≠.cP v ab:=by
   intro xs b h he;unfold C3 at he
   split at he
   case h_2=>cases he
   rename_i l ax;cases aq:(Nat.beq xs.length l.bo.length&&(tv l.ar l.bo&&(noMark l.assign&&noMark l.body))) with
   | false=>rw [aq] at he;cases he
   | true=>
     rw [aq] at he;simp only [aru] at he
     split at he
     case h_2=>cases he
     rename_i e r aa _;cases e<;>simp only at he<;>try (cases he;done)
     exact aR _ _ _ _ _ he
  unfold MB at he
  split at he
  case h_2=>cases he
  split at he
  case h_2=>cases he
  exact bP _ _ _ he
end
section
variable {C:Ctx}
theorem adf {P:Program} {e:cT} {Q:Exit->Act->World->Prop} {a:Act} {w:World} (h:Q (toExit e) a w):(Jl e).wpIn (ca none) 0 P Q a w:=by
 cases e with
 | normal=>exact wpIn_skip h
 | exit id=>exact wpIn_exit h
 | ret=>exact wpIn_ret h
theorem amQ (cN:C.P.follows .mixedOrders=true) (bF:eg C.P) (gR:pT C) {ex:h9} (hex:tX C.P ex) {f:Operand} {bo:Array Tmp} {assign body:Code} {ar:Nat} {aA:Fr} {E:Env} {r:bI} {h:ae} {a:Act} {w:World} {Q:Exit->Act->World->Prop}
 (k:fg E ar r a) (s:ba aA E h w) (ag:x3 aA E ar Q (Mq (fun g args h=>(yx C g).run ex args h) (bV f) bo.toList ar assign body r h)):(Code.rangeFunc f bo assign body).wpIn (ca none) 0 C.P Q a w:=by
 unfold Mq at ag;have av:=dH k.toRegRel0 f;generalize (bV f).run r=xG at ag av;cases xG<;>simp only at ag<;>try (exact ag.elim)
 rename_i g cs;rw [hG] at ag;by_cases aF:g=dB
 . rw [arz aF] at ag;exact ag.elim
 . rw [arw aF] at ag;simp only [Rel] at av;rcases av with ⟨_,eM,dr,ax⟩ | ⟨J5,_⟩
   case inr=>exact absurd J5 aF
   refine wpIn_rangeFunc fun fn _=>?_;have f0:=s.fresh h.next (arv _)
   obtain ⟨gO,wq⟩:∃gO,gO=E.put (az h.next) ⟨w.heap.size,0,0⟩:=⟨_,rfl⟩;obtain ⟨bX,qp⟩:∃bX:World,bX={w with heap:=w.heap.push (.deferred (some []))}:=⟨_,rfl⟩;have B1:gO (az h.next)=some ⟨w.heap.size,0,0⟩:=by rw [wq];unfold Env.put;rw [arz rfl]
   have s1:ba aA gO (h.new .hH) bX:=by rw [wq,qp];refine s.alloc 0 ⟨⟨w.heap.size,0,0⟩,by unfold Env.put;rw [arz rfl],s.frame.size,by simp⟩
   have pC:E.le gO:=by rw [wq];exact Env.mX f0
   have wW:bX.heap.size=w.heap.size+1:=by rw [qp];simp
   obtain ⟨o,aW⟩:∃o:Loop,o={state:=.ready,pending:=none,fn,tmps:=a.tmps,params:=bo,assign,body,defers:=w.heap.size}:=⟨_,rfl⟩;obtain ⟨bC,lB⟩:∃bC,bC=gO.put (az (h.next+1)) ⟨bX.heap.size,0,0⟩:=⟨_,rfl⟩;obtain ⟨bA,uW⟩:∃bA:World,bA={bX with heap:=bX.heap.push (.loop o)}:=⟨_,rfl⟩;have f1:gO (az (h.next+1))=none:=s1.fresh (h.next+1) (arv _);have ma:gO.le bC:=by rw [lB];exact Env.mX f1
   have B2:bC (az (h.next+1))=some ⟨bX.heap.size,0,0⟩:=by rw [lB];unfold Env.put;rw [arz rfl]
   have ft:vM bC ⟨0,none,az h.next,ar,r,bo.toList,assign,body⟩ o:=by subst aW;exact ⟨rfl,rfl,rfl,rfl,rfl,k.size,fun t aG=>Rel.mono (pC.trans ma) _ _ (k.an t aG),_,ma _ _ B1,rfl⟩
   have s2:ba aA bC ((h.new .hH).new (.ft ⟨0,none,az h.next,ar,r,bo.toList,assign,body⟩)) bA:=by rw [lB,uW];refine s1.alloc 0 ⟨⟨bX.heap.size,0,0⟩,o,by show gO.put (az (h.next+1)) _ (az (h.next+1))=_;unfold Env.put;rw [arz rfl],by show aA.w.heap.size<=bX.heap.size;rw [wW];have:=s.frame.size;omega,by simp,?_⟩;have:=ft;rw [lB] at this;exact this
   obtain ⟨h3,qh⟩:∃h3,h3=bX.heap.size:=⟨_,rfl⟩;have a6:Rel bC (.func dB [.ptr (az (h.next+1)) 0]) (.func (.yield h3) #[] #[]):=by simp only [Rel];exact .inr ⟨trivial,_,_,rfl,B2,by rw [qh]⟩
   have p8:bh bC (.func dB [.ptr (az (h.next+1)) 0]::cs) (.func (.yield h3) #[] #[]::eM.toList):=by simp only [bh];exact ⟨_,_,rfl,a6,bh.mono (pC.trans ma) _ _ ax⟩
   have cf:=ET (C:=C) bF cN gR hex (f:=g) p8 s2 (R:=rangePost (ca none) 0 C.P h3 Q {a with defers:=[{target:=.collected w.heap.size,args:=#[]}]++a.defers});cases aD:(yx C g).run ex (.func dB [.ptr (az (h.next+1)) 0]::cs) ((h.new .hH).new (.ft ⟨0,none,az h.next,ar,r,bo.toList,assign,body⟩)) with
   | fail=>rw [aD] at ag;exact ag.elim
   | cP _ _=>rw [aD] at ag;exact ag.elim
   | val v ab=>
     rw [aD] at ag cf;simp only at ag;obtain ⟨⟨adB,ik,ah⟩,aq⟩:=cf (by
      intro au x w' al ao aK;simp only [rangePost];unfold V4 at ag;have dh:=al _ _ B2;have ah:=aK.at dh;cases wF:ab.get (az (h.next+1))<;>rw [wF] at ag ah<;>simp only at ag<;>try (exact ag.elim)
      rename_i l;obtain ⟨p',b9,gF,cG,a8,rG⟩:=ah;rw [dh] at gF;cases gF;obtain ⟨t1,t2,t3,t4,t5,t6,t7,t8⟩:=rG;rw [hG] at ag;by_cases cE:l.st=1
      . rw [arz cE] at ag;exact ag.elim
      . rw [arw cE] at ag;simp only at a8;rw [<-qh] at a8;have Kq:(b9.state == LoopState.busy)=false:=by
         rw [t1]
         match kq:l.st with
         | 0=>rfl
         | 1=>exact absurd kq cE
         | n+2=>rfl
        have k0:=(art.1 a8).1
        let iA:World:={w' with heap:=w'.heap.setIfInBounds h3 (.loop {b9 with state:=.exhausted})}
        have gd:(Instr.endLoop h3).run C.P w'=.ok b9.pending iA:=by
         have qo:(setObj h3 (.loop {b9 with state:=.exhausted})).run C.P w'=.ok () iA:=by simp only [setObj,Sem.run,a8];rfl
         simp only [Instr.endLoop,Sem.run_bind,run_getLoop a8,Result.andThen_ok,Kq,arK,ar5,qo,Sem.run_pure]
        have oT:ba aA au (ab.set (az (h.next+1)) .dead) iA:=by refine aK.gone (p:=⟨bX.heap.size,0,0⟩) (by rw [wF];rfl) dh cG (by simp [iA]) (fun j bp=>?_) rfl rfl rfl;simp only at bp;simp only [iA,arN];rw [arw (fun e=>bp (by rw [<-e,qh]))]
        have fY:fg au ar (T.put .bad (.tuple (.ptr (az h.next) 0::(T.get .bad eN r).list)) eN r) {a with defers:=[{target:=.collected w.heap.size,args:=#[]}]++a.defers}:=by
         refine ⟨⟨k.size,fun t aG=>?_⟩,?_⟩
         . rw [T.ih,arw (fun e=>xm aG e.symm)];exact Rel.mono (pC.trans (ma.trans al)) _ _ (k.an t aG)
         . rw [T.ih,arz rfl];simp only [lY,n1,arR,asb];exact ⟨_,_,rfl,⟨_,al _ _ (ma _ _ B1),rfl⟩,(k.defers.mono (pC.trans (ma.trans al))).list⟩
        refine ⟨b9.pending,iA,gd,?_⟩;rw [t2];cases ks:l.hz with
        | none=>
          rw [ks] at ag;exact ag au _ iA (pC.trans (ma.trans al)) fY oT
        | some e=>
          rw [ks] at ag;exact adf (ag au _ iA (pC.trans (ma.trans al)) fY oT))
     refine ⟨h3,[{target:=.collected w.heap.size,args:=#[]}],bA,{target:=.fn (.func g) eM,args:=#[]++#[.func (.yield h3) #[] #[]]},bA,g,_,bA,?_,?_,fun _ _=>trivial,?_,fun h=>by simp at h,sG.2 aq⟩
     . subst aW uW qp;have he:=run_enterLoop_outer (P:=C.P) (w:=w) fn a.tmps bo assign body;rw [World.alloc,World.alloc] at he;simp only [Array.size_push] at qh ⊢;rw [qh];exact he
     . simp only [resolve,dr,Deferred.ofValue,Sem.run_pure];simp [Act.eval]
     . simp only [invoke];have e:(#[]++#[Value.func (.yield h3) #[] #[]]:Array Value)++eM=(Value.func (.yield h3) #[] #[]::eM.toList).toArray:=by apply ati;simp
       rw [e];exact vp bF ik ah _ bA
theorem zY {P:Program} {b:Frame} {a:Act} {k:List Item} {cs:List Frame} {w:World} {c:Code}:
 step P (lone (b.atR a (.code (.scope c)::k)) cs w)=.next (lone (b.atR a (.code c::.inScope c::k)) cs w):=
 step_lone_go (by simp [stepG,stepG.exec,Frame.atR])
theorem anV {P:Program} {b:Frame} {a:Act} {k:List Item} {cs:List Frame} {w:World} {c:Code}:
 step P (lone (b.atR a (.inScope c::k)) cs w)=.next (lone (b.atR a k) cs w):=
 step_lone_go (by simp [stepG,stepG.exec,Frame.atR])
theorem MG {P:Program} {rd:Option Nat} {c:Code} {Q:Exit->Act->World->Prop} {a:Act} {w:World} (h:c.wpIn (ca rd) 0 P (Exit.noGoto Q) a w):(Code.scope c).wpIn (ca rd) 0 P Q a w:=by
 intro b k cs kt ah aD;obtain ⟨e,vW,xK,ay,iF⟩:=h b (.inScope c::k) cs kt ah aD;have ak:∀id,exitTo id (.inScope c::k)=exitTo id k:=fun id=>by simp [exitTo]
 cases e with
 | normal=>exact ⟨.normal,vW,xK,ay,.head (p6 _) zY (StepsIn.trans iF (.one (p6 _) anV))⟩
 | exit id=>exact ⟨.exit id,vW,xK,ay,fun br aB=>.head (p6 _) zY (iF.1 br (by rw [ak];exact aB)),fun s6 aB=>let ⟨k₁,aa,ad⟩:=iF.2 s6 (by rw [ak];exact aB);⟨k₁,aa,.head (p6 _) zY ad⟩⟩
 | goto l=>exact ay.elim
 | ret=>exact ⟨_,vW,xK,ay,.of_steps (.one (p6 _) zY) iF⟩
 | panic apI=>exact ⟨_,vW,xK,ay,.of_steps (.one (p6 _) zY) iF⟩
 | outgrown=>exact ⟨_,vW,xK,ay,.of_steps (.one (p6 _) zY) iF⟩
theorem abI (cN:C.P.follows .mixedOrders=true) (bF:eg C.P) (gR:pT C) {ex:h9} (hex:tX C.P ex) (ar:Nat):∀c:Code,Ns C.P ar c ((jz C ar c).run ex):=by
 have cf:=aa_ cN bF gR hex;have dL:=aa' (C:=C) ex;intro c
 induction c with
 | skip=>
   intro rd aA r h aD E a w k s Q ag;exact wpIn_skip (ag E a w (Env.le.refl E) k s)
 | label l=>
   intro rd aA r h aD E a w k s Q ag;exact wpIn_label (ag E a w (Env.le.refl E) k s)
 | exit id=>
   intro rd aA r h aD E a w k s Q ag;exact wpIn_exit (ag E a w (Env.le.refl E) k s)
 | ret=>
   intro rd aA r h aD E a w k s Q ag;exact wpIn_ret (ag E a w (Env.le.refl E) k s)
 | region id ops draw=>
   intro rd aA r h aD E a w k s Q ag;have lift:∀x:o3,x3 aA E ar Q (match x with | .ok a7 ab=>.ok .normal a7 ab | .cP v a7 ab=>.cP v a7 ab | .fail=>.fail)->oc aA E ar (Q .normal) Q x:=by intro x ak;cases x<;>exact ak
   cases draw with
   | true=>
     simp only [jz,aru,GR] at ag;exact acu cN bF cf dL (lift _ ag) k s
   | false=>
     simp only [jz,arB,GR] at ag;refine wpIn_region ?_;have:=Vk (rd:=rd) (Q:=Q) bF cf dL ops.toList 0 (fun j=>by simp) (aD.imp (fun h=>h) fun h=>by simpa only [noMark,arU] using h) E r h a w (lift _ ag) k s;rw [List.range_eq_range'];simpa using this
 | seq x y qs qt=>
   intro rd aA r h aD E a w k s Q ag;simp only [jz,Wq] at ag;have yY:rd=none\/noMark x=true:=aD.imp (fun h=>h) fun h=>by simp only [noMark,arp] at h;exact h.1
   have KN:rd=none\/noMark y=true:=aD.imp (fun h=>h) fun h=>by simp only [noMark,arp] at h;exact h.2
   refine wpIn_seq (qs rd aA r h yY E a w k s _ ?_).wp;cases ak:(jz C ar x).run ex r h with
   | fail=>rw [ak] at ag;exact ag
   | cP v bH aa=>rw [ak] at ag;exact ag
   | ok aJ bH aa=>
     rw [ak] at ag;simp only at ag;intro au bm w' al ao aK;cases aJ with
     | normal=>exact (qt rd aA bH aa KN au bm w' ao aK Q (ag.up al)).wp
     | exit id=>exact ag au bm w' al ao aK
     | ret=>exact ag au bm w' al ao aK
 | cond c x y qs qt=>
   intro rd aA r h aD E a w k s Q ag;simp only [jz,QI] at ag;have yY:rd=none\/noMark x=true:=aD.imp (fun h=>h) fun h=>by simp only [noMark,arp] at h;exact h.1
   have KN:rd=none\/noMark y=true:=aD.imp (fun h=>h) fun h=>by simp only [noMark,arp] at h;exact h.2
   have aq:=dH k.toRegRel0 c;cases bt:(bV c).run r<;>rw [bt] at ag aq<;>simp only at ag<;>try (exact ag.elim)
   rename_i t;simp only [Rel] at aq;cases t with
   | true=>exact wpIn_cond_true aq (qs rd aA r h yY E a w k s Q ag).wp
   | false=>exact wpIn_cond_false aq (qt rd aA r h KN E a w k s Q ag).wp
 | block id x bc=>
   intro rd aA r h aD E a w k s Q ag;simp only [jz,OG] at ag;refine wpIn_block (bc rd aA r h (aD.imp (fun h=>h) fun h=>h) E a w k s _ ?_).wp;cases ak:(jz C ar x).run ex r h with
   | fail=>rw [ak] at ag;exact ag
   | cP v bH aa=>rw [ak] at ag;exact ag
   | ok aJ bH aa=>
     rw [ak] at ag;simp only at ag;intro au bm w' al ao aK;cases aJ with
     | normal=>exact ag au bm w' al ao aK
     | ret=>exact ag au bm w' al ao aK
     | exit i=>
       simp only [hG] at ag;simp only [toExit,Exit.inBlock];by_cases aw:i=id
       . rw [arz aw] at ag ⊢;exact ag au bm w' al ao aK
       . rw [arw aw] at ag ⊢;exact ag au bm w' al ao aK
 | loop x bc=>
   intro rd aA r h aD E a w k s Q ag;simp only [jz,Uw] at ag;have yY:rd=none\/noMark x=true:=aD.imp (fun h=>h) fun h=>h;intro b cZ cs kt;cases ak:(jz C ar x).run ex r h with
   | fail=>rw [ak] at ag;exact ag.elim
   | cP v bH aa=>
     rw [ak] at ag;have body:=(bc rd aA r h yY E a w k s (fun cF bm w'=>∃y,cF=.panic y/\Q cF bm w') (by rw [ak];exact fun au bm w' x al ao aK bG=>⟨_,rfl,ag au bm w' x al ao aK bG⟩)).wp b (.inLoop x::cZ) cs kt trivial (GY _);obtain ⟨aR,a2,bA,⟨y,rfl,q⟩,iF⟩:=body;exact ⟨_,a2,bA,q,.pass (x:=.inLoop x) rfl (fun _ _=>.inl (by simp)) iF⟩
   | ok aJ bH aa=>
     rw [ak] at ag;simp only at ag;have body:=(bc rd aA r h yY E a w k s
      (fun cF bm w'=>cF=toExit aJ/\∃au,E.le au/\fg au ar bH bm/\ba aA au aa w') (by rw [ak];exact fun au bm w' al ao aK=>⟨rfl,au,al,ao,aK⟩)).wp b (.inLoop x::cZ) cs kt trivial (GY _)
     obtain ⟨aR,a2,bA,⟨rfl,bC,al,ao,aK⟩,iF⟩:=body;cases aJ with
     | normal=>
       have next:=hex ar (.loop x) rd aA bH aa aD bC a2 bA ao aK Q (ag.up al)
       obtain ⟨bP,a3,nX,ck,cB⟩:=next b cZ cs kt
       exact ⟨bP,a3,nX,ck,.of_steps (StepsIn.trans iF (.one (p6 _) stepR_inLoop)) cB⟩
     | exit id=>exact ⟨.exit id,a2,bA,ag bC a2 bA al ao aK,.pass (x:=.inLoop x) rfl (fun _ _=>.inl (by simp)) iF⟩
     | ret=>exact ⟨.ret,a2,bA,ag bC a2 bA al ao aK,.pass (x:=.inLoop x) rfl (fun _ _=>.inl (by simp)) iF⟩
 | scope x bc=>
   intro rd aA r h aD E a w k s Q ag;simp only [jz] at ag;refine MG (bc rd aA r h (aD.imp (fun h=>h) fun h=>h) E a w k s _ ?_).wp;cases ak:(jz C ar x).run ex r h with
   | fail=>rw [ak] at ag;exact ag
   | cP v bH aa=>rw [ak] at ag;exact ag
   | ok aJ bH aa=>
     rw [ak] at ag;intro au bm w' al ao aK;have:=ag au bm w' al ao aK;cases aJ<;>exact this
 | rangeFunc f bo x y _ _=>
   intro rd aA r h aD E a w k s Q ag;rcases aD with rfl | aD
   case inr=>cases aD
   simp only [jz] at ag;exact amQ cN bF gR hex k s ag
 | goto l=>intro rd aA r h aD E a w k s Q ag;exact ag.elim
 | refuse Xq=>intro rd aA r h aD E a w k s Q ag;exact ag.elim
end
section
variable {C:Ctx}
theorem RG (cN:C.P.follows .mixedOrders=true) (bF:eg C.P) (gR:pT C):∀n,tX C.P (exec C n)
 | 0=>fun ar c rd aA r h aD E a w k s Q ag=>ag.elim
 | n+1=>fun ar c=>abI cN bF gR (RG cN bF gR n) ar c
theorem IM (cN:C.P.follows .mixedOrders=true) (bF:eg C.P) (gR:pT C) {n:Nat} {f:FuncId} {args:List V} {h ab:ae} {v:V} (av:Nat.beq f dB=false) (ak:C.ext f=none) (he:sE C n f args h=.val v ab)
 {aA:Fr} {E:Env} {w:World} {xs:List Value} (ax:bh E args xs) (s:ba aA E h w):
 (∃fn,C.P.funcs[f]? =some fn/\fn.body.isSome=true)/\Calls C.P f xs.toArray w fun e w'=>∃au x,e=.returned x/\E.le au/\Rel au v x/\ba aA au ab w':=by
 unfold sE sF at he;rw [av,arB,ak] at he;simp only at he;exact ET bF cN gR (RG cN bF gR n) ax s (by rw [he];exact fun au x w' al ao aK=>⟨au,x,rfl,al,ao,aK⟩)
theorem G8 (w:World) (hw:Lay.ok w):ba ⟨w,fun _=>none⟩ (fun _=>none) ae.empty w:=by
 refine ⟨fun b _=>?_,fun _ _ h=>(by cases h),(fun b bR p p' _ _ h=>by cases h),fun _ _=>rfl,Below.refl _ _,hw,(fun _ _ _ _ _ _ h=>by cases h)⟩;have:ae.empty.get b=.dead:=by simp [ae.get,ae.empty]
 rw [this];trivial
theorem aow (cN:C.P.follows .mixedOrders=true) (bF:eg C.P) {w:World} (hw:Lay.ok w) (gR:pT C) {n:Nat} {f:FuncId} (av:Nat.beq f dB=false) (ak:C.ext f=none) (h:M4 C n f []=true):
 Calls C.P f #[] w fun e w'=>e=.returned (.bool true)/\Below w.heap.size w w':=by
 unfold M4 at h;cases aq:sE C n f [] ae.empty with
 | fail=>rw [aq] at h;cases h
 | cP _ _=>rw [aq] at h;cases h
 | val v a8=>
   rw [aq] at h;simp only at h;cases v<;>simp only at h<;>try (cases h;done)
   subst h;obtain ⟨_,fQ⟩:=IM cN bF gR av ak aq (aA:=⟨w,fun _=>none⟩) (E:=fun _=>none) (w:=w) (xs:=[]) rfl (G8 w hw);refine fQ.mono fun e w' ay=>?_;obtain ⟨au,x,rfl,_,ao,aK⟩:=ay;simp only [Rel] at ao;subst ao;exact ⟨rfl,aK.frame⟩
end
end
section
open Go Go.RowKit Go.ChangeShapes Go.WideShapes
variable [Lay]
section
variable {H:Type} {enc:TypeId × Value->H} {P:Program}
end
end
section
open Go Go.RowKit
variable [Lay]
theorem ba.below {aA:Fr} {E:Env} {h:ae} {w w':World} (s:ba aA E h w) (ah:Below w.heap.size w w'):ba aA E h w':=by
 have cu:aA.w.heap.size<=w.heap.size:=s.frame.size;have e1:∀(k:Nat) (o:Obj),w.heap[k]? =some o->w'.heap[k]? =some o:=by
  intro k o aB;rw [ah.block k,aB];by_cases aS:k<w.heap.size
  . exact aS
  . rw [ate (by omega)] at aB;cases aB
 refine ⟨fun b ag=>?_,s.oP,s.inj,s.fresh,s.frame.trans (ah.mono cu),s.laid,s.base⟩;have:=s.aZ b ag;cases aB:h.get b<;>rw [aB] at this<;>simp only [fF] at this ⊢
 . obtain ⟨al,p,c,el,b2,ao,aK,bG,cK⟩:=this;exact ⟨al,p,c,el,b2,ao,aK,e1 _ _ bG,cK⟩
 . obtain ⟨al,p,c,el,b2,ao,aK,bG,cK⟩:=this;exact ⟨al,p,c,el,b2,ao,aK,e1 _ _ bG,cK⟩
 . obtain ⟨p,al,ao,aK,bG⟩:=this;exact ⟨p,al,ao,aK,e1 _ _ bG⟩
 . obtain ⟨p,a,al,ao,aK,bG⟩:=this;exact ⟨p,a,al,ao,e1 _ _ aK,bG⟩
 . obtain ⟨p,o,al,ao,aK,bG⟩:=this;exact ⟨p,o,al,ao,e1 _ _ aK,bG⟩
 . obtain ⟨p,al,ao,aK⟩:=this;exact ⟨p,al,ao,e1 _ _ aK⟩
 . obtain ⟨p,a,c,l,al,ao,aK,bG⟩:=this;exact ⟨p,a,c,l,al,ao,e1 _ _ aK,bG⟩
 . obtain ⟨p,m,a,al,ao,aK,bG,cK⟩:=this;exact ⟨p,m,a,al,ao,aK,e1 _ _ bG,cK⟩
theorem ajF {P:Program} {f:FuncId} {args:List V} {v:V} {h:ae} (H:∀E xs w,Lay.ok w->bh E args xs->Calls P f xs.toArray w fun e w'=>∃x,e=.returned x/\Rel E v x/\Below w.heap.size w w')
 (aA:Fr) (E:Env) (w:World) (xs:List Value) (ak:bh E args xs) (s:ba aA E h w):Calls P f xs.toArray w fun e w'=>∃au x,e=.returned x/\E.le au/\Rel au v x/\ba aA au h w':=by
 refine (H E xs w (Lay.e1 s.laid s.frame) ak).mono fun e w' q=>?_;obtain ⟨x,rfl,bt,ah⟩:=q;exact ⟨E,x,rfl,Env.le.refl E,bt,s.below ah⟩
theorem adh {P:Program} {f:FuncId} {fn:Func} {e:Array Value->Sem Value} (av:P.funcs[f]? =some fn) (aV:(fn.name == "runtime.NumGoroutine")=false) (ah:fn.body.isNone=true) (aa:Extern.findNext fn=none) (ad:Extern.find fn=some e)
 {xs:Array Value} {x:Value} {w:World} (aD:(e xs).run P w=.ok x w):(callFunc f xs).run P w=.ok (.value x) w:=by
 simp only [callFunc,Sem.run_bind,run_program,Result.andThen_ok,av];rw [arw (by rw [aV];simp),arz ah];simp only [Sem.run_bind,aa,ad];have hm:(mark (.extern f)).run P w=.ok () w:=rfl;rw [hm];simp only [Result.andThen_ok,aD,Sem.run_pure]
def Ci (c:Nat):List UInt8->Nat->Int
 | [],_=>-1
 | b::l,i=>bif Nat.beq b.toNat c then .ofNat i else Ci c l (i+1)
theorem TN (c:Nat) (aq:c<256):∀(l:List UInt8) (i:Nat),Ci c l i=if Lib.indexByte l c.toUInt8=-1 then -1 else Lib.indexByte l c.toUInt8+i
 | [],i=>by simp [Ci,Lib.indexByte]
 | b::l,i=>by
   have iH:=Lib.indexByte_ge l c.toUInt8;have qa:(b.toNat=c)↔(b == c.toUInt8)=true:=by
    rw [as3,<-atz];have:c.toUInt8.toNat=c:=by show c % 256=c;omega
    rw [this]
   have e:Lib.indexByte (b::l) c.toUInt8=if (b == c.toUInt8)=true then 0 else if (Lib.indexByte l c.toUInt8 == -1)=true then -1 else Lib.indexByte l c.toUInt8+1:=rfl;simp only [Ci,TN c aq l (i+1),hG];by_cases h:b.toNat=c
   . rw [arz (qa.1 h)] at e;rw [arz h,e];simp
   . rw [arw (fun e=>h (qa.2 e))] at e;rw [arw h];by_cases ad:Lib.indexByte l c.toUInt8=-1
     . rw [ad] at e;simp only [beq_self_eq_true,ar2] at e;simp [ad,e]
     . have aH:(Lib.indexByte l c.toUInt8 == -1)=false:=by simpa using ad
       rw [aH] at e;simp only [arK,ar5] at e;rw [arw ad,e,arw (by omega)];omega
def preB:List UInt8->List UInt8->Bool
 | [],_=>true
 | _::_,[]=>false
 | a::x,b::y=>bif Nat.beq a.toNat b.toNat then preB x y else false
theorem Mb:∀(x y:List UInt8),preB x y=x.isPrefixOf y
 | [],y=>by cases y<;>rfl
 | _::_,[]=>rfl
 | a::x,b::y=>by
   simp only [preB,List.isPrefixOf,hG,Mb x y];by_cases h:a.toNat=b.toNat
   . have:a=b:=atz.1 h;subst this;simp
   . have:(a == b)=false:=by
      rw [asR];exact fun e=>h (by rw [e])
     rw [arw h,this];rfl
def hasB:List UInt8->List UInt8->Bool
 | [],sub=>preB sub []
 | b::l,sub=>bif preB sub (b::l) then true else hasB l sub
theorem Sy:∀(s sub:List UInt8),hasB s sub=Lib.contains s sub
 | [],sub=>by simp only [hasB,Mb,Lib.contains,Lib.index];cases sub<;>simp
 | b::l,sub=>by
   simp only [hasB,Mb];have bc:=Sy l sub;unfold Lib.contains at bc ⊢;unfold Lib.index;cases h:sub.isPrefixOf (b::l) with
   | true=>simp
   | false=>
     simp only [arB,arK,ar5,bc];have iH:=Lib.index_ge l sub;cases ad:(Lib.index l sub == -1) with
     | true=>
       have:Lib.index l sub=-1:=by simpa using ad
       simp [this]
     | false=>
       have:Lib.index l sub≠-1:=by simpa using ad
       simp only [arK,ar5];rw [ass,arF,arF];omega
def I2:DQ:=⟨fun args h=>match args with
 | [x,y]=>(match x with
   | .str s=>(match y with
     | .str sub=>bif Nat.ble s.length 100000 then .val (.bool (hasB s sub)) h else .fail
     | _=>.fail)
   | _=>.fail)
 | _=>.fail⟩
theorem abQ {args:List V} {h ab:ae} {v:V} (he:I2.run args h=.val v ab):∃s sub,args=[.str s,.str sub]/\s.length<=100000/\v=.bool (Lib.contains s sub)/\ab=h:=by
 simp only [I2] at he
 split at he
 case h_2=>cases he
 split at he
 case h_2=>cases he
 split at he
 case h_2=>cases he
 obtain ⟨aq,aa⟩:=kh he;simp only [a'.val.injEq] at aa;obtain ⟨rfl,rfl⟩:=aa;exact ⟨_,_,rfl,ar7 aq,by rw [Sy],rfl⟩
def FT:DQ:=⟨fun args h=>match args with
 | [x,y]=>(match x with
   | .str s=>(match y with
     | .int k c=>bif pb k .u8&&(Int.leB 0 c&&Nat.blt c.toNat 256) then .val (.int .i64 (Ci c.toNat s 0)) h else .fail
     | _=>.fail)
   | _=>.fail)
 | _=>.fail⟩
theorem ahf {args:List V} {h ab:ae} {v:V} (he:FT.run args h=.val v ab):∃s c,args=[.str s,.int .u8 c]/\v=.int .i64 (Lib.indexByte s c.toNat.toUInt8)/\ab=h:=by
 simp only [FT] at he
 split at he
 case h_2=>cases he
 split at he
 case h_2=>cases he
 split at he
 case h_2=>cases he
 rename_i s _ k c;obtain ⟨aq,aa⟩:=kh he;simp only [arp,arS] at aq;have aB:=ux aq.1;subst aB;simp only [a'.val.injEq] at aa;obtain ⟨rfl,rfl⟩:=aa;refine ⟨s,c,rfl,?_,rfl⟩;rw [TN _ aq.2.2];by_cases h:Lib.indexByte s c.toNat.toUInt8=-1
 . rw [arz h,h]
 . rw [arw h];simp
theorem ahe {P:Program} {f:FuncId} {fn:Func} (av:P.funcs[f]? =some fn) (aV:(fn.name == "runtime.NumGoroutine")=false) (ah:fn.body.isNone=true) (aa:Extern.findNext fn=none) (ad:Extern.find fn=some Extern.BytealgIndexByte.indexByte)
 {args:List V} {h ab:ae} {v:V} (he:FT.run args h=.val v ab) (aA:Fr) (E:Env) (w:World) (xs:List Value) (ak:bh E args xs) (s:ba aA E h w):
 ∃au x w',(callFunc f xs.toArray).run P w=.ok (.value x) w'/\E.le au/\Rel au v x/\ba aA au ab w':=by
 obtain ⟨t,c,rfl,rfl,rfl⟩:=ahf he;obtain ⟨y,cx,rfl,al,z,vD,rfl,ao,rfl⟩:=ak;simp only [Rel] at al ao;subst al ao;exact ⟨E,_,w,adh av aV ah aa ad (Lib.run_indexByteString _ _ _),Env.le.refl E,by simp [Rel],s⟩
inductive aT where
 | t (n:Nat)
 | c (v:V)
abbrev bf:=Nat->V
def aT.aQ (r:bf):aT->V
 | .t n=>r n
 | .c v=>v
def aT.fI (r:bf):List aT->List V
 | []=>[]
 | x::xs=>x.aQ r::aT.fI r xs
def rx:Operand->aT
 | .tmp t=>bif Nat.ble t top then .t t else .c .bad
 | .const v=>.c (hx v)
 | .func f=>bif Nat.beq f dB then .c .bad else .c (.func f [])
 | .global _=>.c .bad
def nU:List Operand->List aT
 | []=>[]
 | x::xs=>rx x::nU xs
def aT.opt (r:bf):Option aT->Option V
 | none=>none
 | some x=>some (x.aQ r)
def tE:Option Operand->Option aT
 | none=>none
 | some x=>some (rx x)
inductive eX where
 | int (op:BinOp)
 | str (op:BinOp)
 | shl
 | shr
 | Bk (neg:Bool)
 | lv (neg:Bool) (k:Nat)
 | other (op:BinOp) (t:TypeId)
def eX.run (P:Program):eX->V->V->Option V
 | .int op=>(l' op).run
 | .str op=>(tI op).run
 | .shl=>(xA true).run
 | .shr=>(xA false).run
 | .Bk neg=>(jD neg rj).run
 | .lv neg k=>(jD neg (hb k)).run
 | .other op t=>(sA P op t).run
inductive tV where
 | int (k:IntKind)
 | bytes
 | str
 | other (s d:TypeId)
def tV.run (P:Program):tV->V->ae->a'
 | .int k=>fun x h=>x.eu .fail fun _ n=>.val (.int k (k.wrap n)) h
 | .bytes=>Ba.run
 | .str=>uu.run
 | .other s d=>(re P s d).run
inductive jt where
 | int | str | bool
def jt.eq:jt->dN
 | .int=>ki
 | .str=>jE
 | .bool=>rj
inductive DM where
 | arr (n:Nat)
 | str
 | slice
 | map
inductive G where
 | bad
 | cO (x:aT)
 | pick (c a b:aT)
 | new (z:List V)
 | box (x:aT)
 | build (z:List V) (bo:List (Nat × Nat × aT))
 | hS (len size:Nat) (z:List V) (bo:List (Nat × Nat × aT))
 | dR (x:aT)
 | fL (size:Nat) (x:aT)
 | st (size:Nat) (x y:aT)
 | tq (x:aT)
 | bin (k:eX) (x y:aT)
 | un (op:UnOp) (x:aT)
 | dC (k:tV) (x:aT)
 | fn (f:FuncId) (eM:List aT)
 | CC (f:FuncId) (first:List aT)
 | D6 (t:TypeId) (z:Option V) (ok:Bool) (x:aT)
 | tc (t:TypeId) (x:aT)
 | zn (size:Nat) (z:List V) (l c:aT)
 | r6 (x:aT) (bS aw en:Option aT)
 | eW (size:Nat) (x:aT) (bS aw en:Option aT)
 | dZ (off:Nat) (x:aT)
 | ph (off:Nat) (x:aT)
 | wj (off size:Nat) (x:aT)
 | cd (size:Nat) (x i:aT)
 | uY (n size:Nat) (x i:aT)
 | l_ (x i:aT)
 | j2 (t:TypeId) (x i:aT)
 | look (k:jt) (z:V) (ok:Bool) (x i:aT)
 | pN (k:jt) (m i x:aT)
 | tn (x:Option aT)
 | zN (x:aT)
 | xh (x:aT)
 | ext (x:aT) (i:Nat)
 | call (f:FuncId) (args:List aT)
 | l3 (f:aT) (args:List aT)
 | len (k:DM) (x:aT)
 | app (size:Nat) (s x:aT)
 | copy (size:Nat) (d s:aT)
 | zo (args:List aT)
 | en (args:List aT)
 | Qz (z:List V) (x:aT)
 | ye (x:aT)
 | AU (size:Nat) (z:List V) (s x:aT)
 | zj (z:V) (ok:Bool) (x i:aT)
 | looks (k:TypeId) (z:V) (ok:Bool) (x i:aT)
 | Dc (m i x:aT)
 | z_ (k:TypeId) (m i x:aT)
 | CB (z:V) (m i:aT)
 | zm (k:TypeId) (z:V) (m i:aT)
 | yr (m s x:aT)
 | xx (x:aT)
 | mj (x:aT)
 | wc (x:aT)
 | xn (neg:Bool) (x y:aT)
def kQ (r:bf):List (Nat × Nat × aT)->List (Nat × Nat × V)
 | []=>[]
 | (o,s,x)::bo=>(o,s,x.aQ r)::kQ r bo
def jc:List V->List (Nat × Nat × V)->Option (List V)
 | cells,[]=>some cells
 | cells,(off,size,v)::rest=>bif v.eU&&(Nat.beq v.cells.length size&&Nat.ble (off+v.cells.length) cells.length) then jc (sO cells off v.cells) rest else none
def DM.run:DM->V->ae->a'
 | .arr n=>fun _ h=>.val (.int .i64 n) h
 | .str=>fun x h=>a'.of h ((pF .string).run x)
 | .slice=>fun x h=>a'.of h ((pF (.slice 0)).run x)
 | .map=>fun x h=>Cs [x] h
def zG (neg:Bool) (h:ae) (x y:V):Option V:=
 match jL h x y with
 | some b=>some (.bool (bif neg then !b else b))
 | none=>none
def G.run (P:Program) (g:G) (call:dT) (r:bf) (h:ae):a':=
 match g with
 | .bad=>.fail
 | .cO x=>.val (x.aQ r) h
 | .pick c a b=>match c.aQ r with
   | .bool t=>.val (bif t then a.aQ r else b.aQ r) h
   | _=>.fail
 | .new z=>gY (.ptr (az h.next) 0) (gh h z)
 | .box x=>bif (x.aQ r).eU then gY (.ptr (az h.next) 0) (gh h (x.aQ r).cells) else .fail
 | .build z bo=>(match jc z (kQ r bo) with
   | some cs=>.val (.agg cs) h
   | none=>.fail)
 | .hS n _ z bo=>match jc (iN z n) (kQ r bo) with
   | some cs=>(match gh h cs with
     | some ab=>.val (.slice (az h.next) 0 n n) ab
     | none=>.fail)
   | none=>.fail
 | .dR x=>a'.of h (nN h (x.aQ r))
 | .fL n x=>a'.of h (nM n h (x.aQ r))
 | .st n x y=>gY .bad (xC n h (x.aQ r) (y.aQ r))
 | .tq x=>a'.of h (vb (x.aQ r))
 | .bin k x y=>a'.of h (k.run P (x.aQ r) (y.aQ r))
 | .un op x=>a'.of h (r8 op (x.aQ r))
 | .dC k x=>k.run P (x.aQ r) h
 | .fn f eM=>.val (.func f (aT.fI r eM)) h
 | .CC f first=>.val (.me f (aT.fI r first)) h
 | .D6 t z ok x=>a'.of h (AY t z ok (x.aQ r))
 | .tc t x=>.val (.iface t (x.aQ r)) h
 | .zn n z l c=>u9 n z (l.aQ r) (c.aQ r) h
 | .r6 x bS aw m3=>a'.of h (nd (x.aQ r) (aT.opt r bS) (aT.opt r aw) (aT.opt r m3))
 | .eW n x bS aw m3=>a'.of h (match x.aQ r with
   | .bj=>G_ (aT.opt r bS) (aT.opt r aw) (aT.opt r m3)
   | .slice b off xa cap=>vr n b off xa cap (aT.opt r bS) (aT.opt r aw) (aT.opt r m3)
   | .ew b off xa idx=>xB n b off xa idx (aT.opt r bS) (aT.opt r aw) (aT.opt r m3)
   | .g' b off k7 idx=>Ha b off k7 idx (aT.opt r bS) (aT.opt r aw) (aT.opt r m3)
   | _=>none)
 | .dZ off x=>a'.of h ((x.aQ r).jh none fun b o=>some (.ptr b (o+off)))
 | .ph off x=>a'.of h (match x.aQ r with
   | .agg cs=>cs[off]?
   | _=>none)
 | .wj off n x=>a'.of h (match x.aQ r with
   | .agg cs=>some (.agg ((cs.drop off).take n))
   | _=>none)
 | .cd n x i=>a'.of h ((w3 n).run (x.aQ r) (i.aQ r))
 | .uY n s x i=>a'.of h ((te n s).run (x.aQ r) (i.aQ r))
 | .l_ x i=>a'.of h (tg.run (x.aQ r) (i.aQ r))
 | .j2 t x i=>a'.of h ((tf P t).run (x.aQ r) (i.aQ r))
 | .look k z ok x i=>a'.of h (gK k.eq z ok h (x.aQ r) (i.aQ r))
 | .pN k m i x=>gY .bad (kc k.eq h (m.aQ r) (i.aQ r) (x.aQ r))
 | .tn x=>rS (aT.opt r x) h
 | .zN x=>(match x.aQ r with
   | .str s=>.val (.ptr (az h.next) 0) (h.new (.iter s 0))
   | _=>.fail)
 | .xh x=>xg (x.aQ r) h
 | .ext x i=>(match x.aQ r with
   | .tuple af=>a'.of h af[i]?
   | _=>.fail)
 | .call f args=>call f (aT.fI r args) h
 | .l3 f args=>(f.aQ r).zw (aT.fI r args) fun g xs=>call g xs h
 | .len k x=>k.run (x.aQ r) h
 | .app n s x=>kg n (s.aQ r) (x.aQ r) h
 | .copy n d s=>copyV n (d.aQ r) (s.aQ r) h
 | .zo args=>a'.of h (k9 (fun b a=>!Int.leB a b) (aT.fI r args))
 | .en args=>a'.of h (k9 (fun b a=>!Int.leB b a) (aT.fI r args))
 | .Qz z x=>Em z (x.aQ r) h
 | .ye x=>a'.of h (ur (x.aQ r))
 | .AU n z s x=>D3 n z (s.aQ r) (x.aQ r) h
 | .zj z ok x i=>a'.of h (hv ⟨jL h⟩ z ok h (x.aQ r) (i.aQ r))
 | .looks k z ok x i=>a'.of h (bif lK P k (i.aQ r) then hv (structEq P k) z ok h (x.aQ r) (i.aQ r) else none)
 | .Dc m i x=>gY .bad (kc ⟨jL h⟩ h (m.aQ r) (i.aQ r) (x.aQ r))
 | .z_ k m i x=>gY .bad (bif lK P k (i.aQ r) then kc (structEq P k) h (m.aQ r) (i.aQ r) (x.aQ r) else none)
 | .CB z m i=>EC z (m.aQ r) (i.aQ r) h
 | .zm k z m i=>ym P k z (m.aQ r) (i.aQ r) h
 | .yr m s x=>gY .bad (ri h (m.aQ r) (s.aQ r) (x.aQ r))
 | .xx x=>rangeMap (x.aQ r) h
 | .mj x=>gL (x.aQ r) h
 | .wc x=>sM (x.aQ r) h
 | .xn neg x y=>a'.of h (zG neg h (x.aQ r) (y.aQ r))
def Mt (P:Program) (op:BinOp) (t:TypeId):eX:=
 match op with
 | .shl=>.shl
 | .shr=>.shr
 | op=>match bd P t with
   | none=>.other op t
   | some aP=>match aP.bl with
     | .int _=>.int op
     | .string=>.str op
     | .bool=>(match op with
       | .eql=>.Bk false
       | .neq=>.Bk true
       | _=>.other op t)
     | .pointer _=>(match op with
       | .eql=>.lv false 1
       | .neq=>.lv true 1
       | _=>.other op t)
     | .slice _=>(match op with
       | .eql=>.lv false 2
       | .neq=>.lv true 2
       | _=>.other op t)
     | .map _ _=>(match op with
       | .eql=>.lv false 3
       | .neq=>.lv true 3
       | _=>.other op t)
     | .func _ _ _=>(match op with
       | .eql=>.lv false 4
       | .neq=>.lv true 4
       | _=>.other op t)
     | _=>.other op t
def Mx (P:Program) (op:BinOp) (t:TypeId) (lit:Bool):eX:=
 bif lit then (match bd P t with
  | some aP=>match aP.bl with
    | .interface _=>match op with
      | .eql=>.lv false 5
      | .neq=>.lv true 5
      | _=>.lv false 99
    | _=>.lv false 99
  | none=>.lv false 99) else Mt P op t
def Mw (P:Program) (s d:TypeId):tV:=
 match bd P s,bd P d with
 | some vq,some pa=>match pa.bl with
   | .int k=>.int k
   | .string=>match vq.bl with
     | .slice e=>match bd P e with
       | some bg=>match bg.bl with
         | .int .u8=>.str
         | _=>.other s d
       | none=>.other s d
     | _=>.other s d
   | .slice e=>match bd P e with
     | some bg=>match bg.bl with
       | .int .u8=>.bytes
       | _=>.other s d
     | none=>.other s d
   | _=>.other s d
 | _,_=>.other s d
def qH (place:Nat->Option (Nat × Nat)):List (Nat × Operand)->Option (List (Nat × Nat × aT))
 | []=>some []
 | (i,x)::bo=>match place i with
   | none=>none
   | some (off,size)=>match qH place bo with
     | none=>none
     | some l=>some ((off,size,rx x)::l)
def Mu (P:Program) (t:TypeId) (bo:List (Nat × Operand)):G:=
 match bd P t with
 | some aP=>match aP.zero with
   | some z=>match aP.bl with
     | .struct b7=>bif EM P b7.toList then (match qH (yu P b7) bo with
       | some l=>.build z.cells l
       | none=>.bad) else .bad
     | .array _ e=>match bd P e with
       | some bg=>(match qH (fun i=>some (i * bg.size,bg.size)) bo with
         | some l=>.build z.cells l
         | none=>.bad)
       | none=>.bad
     | _=>.bad
   | none=>.bad
 | none=>.bad
def My (P:Program) (t:TypeId) (len:Nat) (bo:List (Nat × Operand)):G:=
 match bd P t with
 | some aP=>match aP.bl with
   | .slice e=>match bd P e with
     | some bg=>match bg.zero with
       | some z=>bif Nat.ble (len * bg.size) 1000000&&Nat.beq z.cells.length bg.size then
          (match qH (fun i=>some (i * bg.size,bg.size)) bo with
          | some l=>.hS len bg.size z.cells l
          | none=>.bad) else .bad
       | none=>.bad
     | none=>.bad
   | _=>.bad
 | none=>.bad
def w6:TypeDesc->Option jt
 | .int _=>some .int
 | .string=>some .str
 | .bool=>some .bool
 | _=>none
def IU (P:Program) (t:TypeId):Option (List V):=
 match bd P t with
 | some aP=>match aP.bl with
   | .slice e=>match bd P e with
     | some bg=>match bg.zero with
       | some z=>some z.cells
       | none=>none
     | none=>none
   | _=>none
 | none=>none
theorem abG (P:Program) (t:TypeId):A' P t=IU P t:=rfl
def GS (P:Program) (c:Call):G:=
 match c.callee with
 | .value (.func f)=>bif Nat.beq f dB then .bad else .call f (nU c.args.toList)
 | .value x=>.l3 (rx x) (nU c.args.toList)
 | .invoke _ _=>.bad
 | .builtin b=>match b with
   | .len=>match c.argTypes.toList,c.args.toList with
     | [t],[x]=>(match bd P t with
       | some aP=>(match aP.bl with
         | .map _ _=>.len .map (rx x)
         | .array n _=>.len (.arr n) (rx x)
         | .string=>.len .str (rx x)
         | .slice _=>.len .slice (rx x)
         | _=>.bad)
       | none=>.bad)
     | _,_=>.bad
   | .append=>match c.argTypes.toList,c.args.toList with
     | [t,u],[s,x]=>(match bd P t,bd P u with
       | some aP,some tN=>(match tN.bl with
         | .int _=>(match aP.bl with
           | .slice e=>(match bd P e with
             | none=>.bad
             | some bg=>match bg.zero with
               | none=>.bad
               | some z=>bif Nat.ble 1 bg.size&&Nat.ble bg.bytes 4096&&Nat.beq z.cells.length bg.size then .AU bg.size z.cells (rx s) (rx x) else .bad)
           | _=>.bad)
         | _=>match aP.bl with
           | .slice e=>(match bd P e with
             | none=>.bad
             | some bg=>match bg.zero with
               | none=>.bad
               | some z=>bif Nat.ble 1 bg.size&&Nat.ble bg.bytes 4096&&Nat.beq z.cells.length bg.size then .app bg.size (rx s) (rx x) else .bad)
           | _=>.bad)
       | _,_=>.bad)
     | _,_=>.bad
   | .copy=>match c.argTypes.toList,c.args.toList with
     | t::_,[d,s]=>(match bd P t with
       | some aP=>(match aP.bl with
         | .slice e=>(match bd P e with
           | some bg=>.copy bg.size (rx d) (rx s)
           | none=>.bad)
         | _=>.bad)
       | none=>.bad)
     | _,_=>.bad
   | .min=>.zo (nU c.args.toList)
   | .max=>.en (nU c.args.toList)
   | .clear=>match c.argTypes.toList,c.args.toList with
     | [t],[x]=>(match IU P t with
       | some z=>.Qz z (rx x)
       | none=>.bad)
     | _,_=>.bad
   | .cap=>match c.argTypes.toList,c.args.toList with
     | [t],[x]=>(match bd P t with
       | some aP=>bif Ch aP.bl then .ye (rx x) else .bad
       | none=>.bad)
     | _,_=>.bad
   | _=>.bad
def vl (P:Program) (op:Op):G:=
 match op with
 | .move x=>.cO (rx x)
 | .assign x=>.cO (rx x)
 | .pick c a b=>.pick (rx c) (rx a) (rx b)
 | .alloc t=>(match bd P t with
   | some aP=>(match aP.zero with
     | some z=>.new z.cells
     | none=>.bad)
   | none=>.bad)
 | .box _ x=>.box (rx x)
 | .build t bo=>Mu P t bo.toList
 | .buildSlice t n bo=>My P t n bo.toList
 | .load t x=>(match bd P t with
   | none=>.bad
   | some aP=>bif aP.agg then .fL aP.size (rx x) else bif Nat.beq aP.size 1 then .dR (rx x) else .bad)
 | .store t x y=>(match bd P t with
   | none=>.bad
   | some aP=>.st aP.size (rx x) (rx y))
 | .nilCheck x=>.tq (rx x)
 | .binOp op t x y _=>.bin (Mx P op t (rR x||rR y)) (rx x) (rx y)
 | .unOp op _ x=>.un op (rx x)
 | .convert s d x=>.dC (Mw P s d) (rx x)
 | .makeFunc (.func f) first eM=>bif first.isEmpty&&!Nat.beq f dB then .fn f (nU eM.toList) else bif eM.isEmpty&&!Nat.beq f dB then .CC f (nU first.toList) else .bad
 | .makeInterface t x=>(match bd P t with
   | some aP=>bif Nat.beq (e2 aP.bl) 5 then .bad else .tc t (rx x)
   | none=>.bad)
 | .makeSlice t l c=>(match bd P t with
   | some aP=>(match aP.bl with
     | .slice e=>(match bd P e with
       | some bg=>(match bg.zero with
         | some z=>bif Nat.ble bg.bytes 4096 then .zn bg.size z.cells (rx l) (rx c) else .bad
         | none=>.bad)
       | none=>.bad)
     | _=>.bad)
   | none=>.bad)
 | .slice t x bS aw en=>(match bd P t with
   | none=>.bad
   | some aP=>match aP.bl with
     | .string=>.r6 (rx x) (tE bS) (tE aw) (tE en)
     | .slice e=>(match bd P e with
       | none=>.bad
       | some bg=>.eW bg.size (rx x) (tE bS) (tE aw) (tE en))
     | _=>.bad)
 | .fieldAddr t x i=>(match rp P t i with
   | none=>.bad
   | some f=>match bd P f.type with
     | none=>.bad
     | some kR=>bif Nat.beq kR.size 0 then .bad else .dZ f.offset (rx x))
 | .field t x i=>(match rp P t i with
   | none=>.bad
   | some f=>match bd P f.type with
     | none=>.bad
     | some aP=>bif aP.agg then .wj f.offset aP.size (rx x) else .ph f.offset (rx x))
 | .indexAddr t x i=>(match bd P t with
   | none=>.bad
   | some aP=>match aP.bl with
     | .slice e=>(match bd P e with
       | none=>.bad
       | some bg=>.cd bg.size (rx x) (rx i))
     | .array n e=>(match bd P e with
       | none=>.bad
       | some bg=>.uY n bg.size (rx x) (rx i))
     | _=>.bad)
 | .index t x i=>(match bd P t with
   | none=>.bad
   | some aP=>match aP.bl with
     | .string=>.l_ (rx x) (rx i)
     | _=>.j2 t (rx x) (rx i))
 | .range t x=>(match bd P t with
   | some aP=>(match aP.bl with
     | .string=>.zN (rx x)
     | .map _ _=>.xx (rx x)
     | _=>.bad)
   | none=>.bad)
 | .next it s=>bif s then .xh (rx it) else .mj (rx it)
 | .entry it=>.wc (rx it)
 | .lookup t x k ok=>(match bd P t with
   | some aP=>(match aP.bl with
     | .map br e=>(match bd P br with
       | some gp=>(match bd P e with
         | some bg=>(match bg.zero with
           | some z=>(match w6 gp.bl with
             | some cZ=>.look cZ z ok (rx x) (rx k)
             | none=>bif k2 gp.bl then .bad else bif jl P br then .zj z ok (rx x) (rx k) else bif mm P br then .looks br z ok (rx x) (rx k) else .bad)
           | none=>.bad)
         | none=>.bad)
       | none=>.bad)
     | _=>.bad)
   | none=>.bad)
 | .mapUpdate t m k x | .insert t m k x=>(match bd P t with
   | some aP=>(match aP.bl with
     | .map br _=>(match bd P br with
       | some gp=>(match w6 gp.bl with
         | some cZ=>.pN cZ (rx m) (rx k) (rx x)
         | none=>bif k2 gp.bl then .bad else bif jl P br then .Dc (rx m) (rx k) (rx x) else bif mm P br then .z_ br (rx m) (rx k) (rx x) else .bad)
       | none=>.bad)
     | _=>.bad)
   | none=>.bad)
 | .mapEntry t m k=>(match bd P t with
   | some aP=>(match aP.bl with
     | .map br e=>(match bd P e with
       | some bg=>(match bg.zero with
         | some z=>bif jl P br then .CB z (rx m) (rx k) else bif mm P br then .zm br z (rx m) (rx k) else .bad
         | none=>.bad)
       | none=>.bad)
     | _=>.bad)
   | none=>.bad)
 | .entryStore _ m st x=>.yr (rx m) (rx st) (rx x)
 | .makeMap t x=>(match bd P t with
   | some aP=>bif Nat.beq (e2 aP.bl) 3 then .tn (tE x) else .bad
   | none=>.bad)
 | .extract x i=>.ext (rx x) i
 | .typeAssert x _ t ok=>(match bd P t with
   | some aP=>bif Nat.beq (e2 aP.bl) 5 then .bad else .D6 t aP.zero ok (rx x)
   | none=>.bad)
 | .call c=>GS P c
 | _=>.bad
def eb (cU:bI):bf:=fun t=>T.get .bad (az t) cU
theorem eP (cU:bI) (x:Operand):(bV x).run cU=(rx x).aQ (eb cU):=by
 cases x with
 | tmp t=>
   simp only [bV,rx];cases Nat.ble t top<;>rfl
 | const v=>rfl
 | func f=>
   simp only [bV,rx];cases Nat.beq f dB<;>rfl
 | global g=>rfl
theorem ys (cU:bI):∀xs:List Operand,(rm xs).run cU=aT.fI (eb cU) (nU xs)
 | []=>rfl
 | x::xs=>by simp only [rm,nU,aT.fI,eP,ys cU xs]
theorem L0 (cU:bI) (x:Option Operand):(rX x).run cU=aT.opt (eb cU) (tE x):=by
 cases x with
 | none=>rfl
 | some x=>simp only [rX,tE,aT.opt,eP]
theorem EN (cU:bI) {place:Nat->Option (Nat × Nat)}:∀{bo:List (Nat × Operand)} {l:List (Nat × Nat × aT)},qH place bo=some l->∀cells,nt place cells ((vg bo).run cU)=jc cells (kQ (eb cU) l)
 | [],l,h,cells=>by simp only [qH,arq] at h;subst h;rfl
 | (i,x)::bo,l,h,cells=>by
   simp only [qH] at h;cases ag:place i with
   | none=>rw [ag] at h;cases h
   | some os=>
     obtain ⟨off,size⟩:=os;rw [ag] at h;simp only at h;cases ax:qH place bo with
     | none=>rw [ax] at h;cases h
     | some eE=>
       rw [ax] at h;simp only [arq] at h;subst h;simp only [vg,nt,ag,kQ,jc,eP];cases ((rx x).aQ (eb cU)).eU&&(Nat.beq ((rx x).aQ (eb cU)).cells.length size&&Nat.ble (off + ((rx x).aQ (eb cU)).cells.length) cells.length) with
       | false=>rfl
       | true=>exact EN cU ax _
section
variable {P:Program}
theorem amX (op:BinOp) (t:TypeId):(Mt P op t).run P=(sA P op t).run:=by
 unfold Mt sA;cases op<;>first | rfl | skip
 all_goals
  cases aG:bd P t with
  | none=>simp only [eX.run];unfold sA;rw [aG]
  | some aP=>
    simp only;cases hu:aP.bl<;>first | rfl | (simp only [eX.run];unfold sA;rw [aG];simp only [hu];done) | (simp only [eX.run];unfold p4 hI;simp only [aG,hu];first | done | rfl)
theorem am1 (op:BinOp) (t:TypeId) (lit:Bool):(Mx P op t lit).run P=(AZ P op t lit).run:=by
 unfold Mx AZ;cases lit with
 | false=>simp only [arB];exact amX op t
 | true=>
   simp only [aru];cases bd P t with
   | none=>rfl
   | some aP=>
     simp only;cases aP.bl<;>first | rfl | (cases op<;>rfl)
theorem amZ (s d:TypeId):(Mw P s d).run P=(re P s d).run:=by
 unfold Mw
 split
 . rename_i vq pa aU aI
   split
   . rename_i k hu;simp only [tV.run];unfold re;rw [aU,aI];simp only [hu]
   . rename_i hu
     split
     . rename_i e bt
       split
       . rename_i bg he
         split
         . rename_i hw;simp only [tV.run];unfold re;rw [aU,aI];simp only [hu,bt,he,hw]
         . rfl
       . rfl
     . rfl
   . rename_i e hu
     split
     . rename_i bg he
       split
       . rename_i hw;simp only [tV.run];unfold re;rw [aU,aI];simp only [hu,he,hw]
       . rfl
     . rfl
   . rfl
 . rfl
theorem Lc {d:TypeDesc} {cZ:jt} (h:w6 d=some cZ):k2 d=true/\lJ d=cZ.eq:=by cases d<;>simp only [w6] at h<;>first | (cases h;done) | (cases h;exact ⟨rfl,rfl⟩)
theorem amY {c:Call} {call:dT} {cU:bI} {h ab:ae} {v:V} (he:(GS P c).run P call (eb cU) h=.val v ab):(sD P c).run call cU h=.val v ab:=by
 unfold GS at he;unfold sD
 split at he
 . rename_i f aq;rw [aq];cases a6:Nat.beq f dB with
   | true=>rw [a6] at he;cases he
   | false=>
     rw [a6] at he;simp only [arB,G.run] at he;simpa only [bV,a6,arB,rl,V.zw,ys,asS] using he
 . rename_i x ak aq;rw [aq];simp only [G.run] at he;simpa only [eP,ys] using he
 . cases he
 . rename_i b aq;rw [aq];simp only [ys];cases b<;>simp only at he<;>try (cases he;done)
   case len=>
    split at he
    . rename_i t x aG ak;cases lH:bd P t with
      | none=>rw [lH] at he;cases he
      | some aP=>
        rw [lH] at he;simp only at he;simp only [q_,aG,lH,ak,nU,aT.fI];cases hu:aP.bl<;>rw [hu] at he<;>first | (cases he;done) | (simpa only [u3,aru,arB,G.run,DM.run,pF,a'.of] using he)
    . cases he
   case append=>
    split at he
    . rename_i t u s x aG ak
      split at he
      . rename_i aP tN lH uV;simp only [q_,aG,ak,nU,aT.fI,D2,lH,uV]
        split at he
        . rename_i k agG
          split at he
          . rename_i e cq;cases eJ:bd P e with
            | none=>rw [eJ] at he;cases he
            | some bg=>
              rw [eJ] at he;simp only at he;cases bk:bg.zero with
              | none=>rw [bk] at he;cases he
              | some z=>
                rw [bk] at he;simp only at he;cases ah:(Nat.ble 1 bg.size&&Nat.ble bg.bytes 4096&&Nat.beq z.cells.length bg.size) with
                | false=>rw [ah] at he;cases he
                | true=>
                  rw [ah] at he;simp only [aru,G.run] at he;simp only [agG,cq,eJ,bk,ah,aru];exact he
          . cases he
        . rename_i c_
          split at he
          . rename_i e cq;cases eJ:bd P e with
            | none=>rw [eJ] at he;cases he
            | some bg=>
              rw [eJ] at he;simp only at he;cases bk:bg.zero with
              | none=>rw [bk] at he;cases he
              | some z=>
                rw [bk] at he;simp only at he;cases ah:(Nat.ble 1 bg.size&&Nat.ble bg.bytes 4096&&Nat.beq z.cells.length bg.size) with
                | false=>rw [ah] at he;cases he
                | true=>
                  rw [ah] at he;simp only [aru,G.run] at he;cases KT:tN.bl<;>first
                   | (exact absurd KT (c_ _))
                   | (simp only [cq,eJ,bk,ah,aru];exact he)
          . cases he
      . cases he
    . cases he
   case copy=>
    split at he
    . rename_i t bn d s aG ak;cases lH:bd P t with
      | none=>rw [lH] at he;cases he
      | some aP=>
        rw [lH] at he;simp only at he
        split at he
        . rename_i e cq;cases eJ:bd P e with
          | none=>rw [eJ] at he;cases he
          | some bg=>
            rw [eJ] at he;simp only [G.run] at he;simp only [q_,aG,ak,nU,aT.fI,En,lH,cq,eJ];exact he
        . cases he
    . cases he
   case min=>exact he
   case max=>exact he
   case clear=>
    split at he
    . rename_i t x aG ak;cases aq:IU P t with
      | none=>rw [aq] at he;cases he
      | some z=>
        rw [aq] at he;simp only [G.run] at he;simp only [q_,aG,ak,nU,aT.fI,abG,aq];exact he
    . cases he
   case cap=>
    split at he
    . rename_i t x aG ak;cases lH:bd P t with
      | none=>rw [lH] at he;cases he
      | some aP=>
        rw [lH] at he;simp only at he;cases ah:Ch aP.bl with
        | false=>rw [ah] at he;cases he
        | true=>
          rw [ah] at he;simp only [aru,G.run] at he;simp only [q_,aG,ak,nU,aT.fI,lH,ah,aru];exact he
    . cases he
theorem Wb {o:Oper} {call:dT} {cU:bI} {h ab:ae} {v:V} (he:(vl P o.op).run P call (eb cU) h=.val v ab):(fh P o).run call cU h=.val v ab:=by
 obtain ⟨dst,op,type,pos,after,guard⟩:=o;cases op<;>simp only [vl] at he<;>try (cases he;done)
 all_goals simp only [fh]
 case move x=>simpa only [eP,G.run] using he
 case assign x=>simpa only [eP,G.run] using he
 case pick c a b=>
  simp only [eP,G.run] at he ⊢;generalize (rx c).aQ (eb cU)=q at he ⊢;cases q<;>exact he
 case alloc t=>
  cases aG:bd P t with
  | none=>rw [aG] at he;cases he
  | some aP=>
    rw [aG] at he;simp only at he ⊢;cases bk:aP.zero with
    | none=>rw [bk] at he;cases he
    | some z=>rw [bk] at he;exact he
 case box t x=>simpa only [eP,G.run] using he
 case build t bo=>
  unfold Mu at he;unfold Eb;cases aG:bd P t with
  | none=>rw [aG] at he;cases he
  | some aP=>
    rw [aG] at he;simp only at he ⊢;cases bk:aP.zero with
    | none=>rw [bk] at he;cases he
    | some z=>
      rw [bk] at he;simp only at he ⊢;cases hu:aP.bl<;>rw [hu] at he<;>simp only at he ⊢<;>try (cases he;done)
      . rename_i n e;cases eJ:bd P e with
        | none=>rw [eJ] at he;cases he
        | some bg=>
          rw [eJ] at he;simp only at he ⊢;cases ag:qH (fun i=>some (i * bg.size,bg.size)) bo.toList with
          | none=>rw [ag] at he;cases he
          | some l=>
            rw [ag] at he;simp only [G.run] at he;rw [EN cU ag];cases av:jc z.cells (kQ (eb cU) l) with
            | none=>rw [av] at he;cases he
            | some cs=>rw [av] at he;exact he
      . rename_i b7;cases aB:EM P b7.toList with
        | false=>rw [aB] at he;cases he
        | true=>
          rw [aB] at he;simp only [aru] at he ⊢;cases ag:qH (yu P b7) bo.toList with
          | none=>rw [ag] at he;cases he
          | some l=>
            rw [ag] at he;simp only [G.run] at he;rw [EN cU ag];cases av:jc z.cells (kQ (eb cU) l) with
            | none=>rw [av] at he;cases he
            | some cs=>rw [av] at he;exact he
 case buildSlice t n bo=>
  unfold My at he;unfold vZ;cases aG:bd P t with
  | none=>rw [aG] at he;cases he
  | some aP=>
    rw [aG] at he;simp only at he ⊢;cases hu:aP.bl<;>rw [hu] at he<;>simp only at he ⊢<;>try (cases he;done)
    rename_i e;cases eJ:bd P e with
    | none=>rw [eJ] at he;cases he
    | some bg=>
      rw [eJ] at he;simp only at he ⊢;cases bk:bg.zero with
      | none=>rw [bk] at he;cases he
      | some z=>
        rw [bk] at he;simp only at he ⊢;cases ah:(Nat.ble (n * bg.size) 1000000&&Nat.beq z.cells.length bg.size) with
        | false=>rw [ah] at he;cases he
        | true=>
          rw [ah] at he;simp only [aru] at he ⊢;cases ag:qH (fun i=>some (i * bg.size,bg.size)) bo.toList with
          | none=>rw [ag] at he;cases he
          | some l=>
            rw [ag] at he;simp only [G.run] at he;rw [EN cU ag];exact he
 case load t x=>
  unfold qz;cases aG:bd P t with
  | none=>rw [aG] at he;cases he
  | some aP=>
    rw [aG] at he;simp only at he ⊢;cases bs:aP.agg with
    | true=>rw [bs] at he;simpa only [aru,eP,G.run] using he
    | false=>
      rw [bs] at he;simp only [arB] at he ⊢;cases aU:Nat.beq aP.size 1 with
      | true=>rw [aU] at he;simpa only [aru,eP,G.run] using he
      | false=>rw [aU] at he;cases he
 case store t x y=>
  unfold tG;cases aG:bd P t with
  | none=>rw [aG] at he;cases he
  | some aP=>rw [aG] at he;simpa only [eP,G.run] using he
 case nilCheck x=>simpa only [eP,G.run] using he
 case binOp op t x y t2=>simpa only [eP,G.run,am1] using he
 case unOp op t x=>simpa only [eP,G.run] using he
 case convert s d x=>simpa only [eP,G.run,amZ] using he
 case makeFunc fn first eM=>
  cases fn<;>simp only at he<;>try (cases he;done)
  simp only;cases av:(first.isEmpty&&!Nat.beq _ dB) with
  | true=>rw [av] at he;simpa only [aru,ys,G.run] using he
  | false=>
    rw [av] at he;simp only [arB] at he ⊢;cases jI:(eM.isEmpty&&!Nat.beq _ dB) with
    | true=>rw [jI] at he;simpa only [aru,ys,G.run] using he
    | false=>rw [jI] at he;cases he
 case typeAssert x vC t ok=>
  cases aG:bd P t with
  | none=>rw [aG] at he;cases he
  | some aP=>
    rw [aG] at he;simp only at he ⊢;cases ah:Nat.beq (e2 aP.bl) 5 with
    | true=>rw [ah] at he;cases he
    | false=>rw [ah] at he;simpa only [arB,eP,G.run] using he
 case makeInterface t x=>
  cases aG:bd P t with
  | none=>rw [aG] at he;cases he
  | some aP=>
    rw [aG] at he;simp only at he ⊢;cases ah:Nat.beq (e2 aP.bl) 5 with
    | true=>rw [ah] at he;cases he
    | false=>rw [ah] at he;simpa only [arB,eP,G.run] using he
 case makeSlice t l c=>
  unfold xc;cases aG:bd P t with
  | none=>rw [aG] at he;cases he
  | some aP=>
    rw [aG] at he;simp only at he ⊢;cases hu:aP.bl<;>rw [hu] at he<;>simp only at he ⊢<;>try (cases he;done)
    rename_i e;cases eJ:bd P e with
    | none=>rw [eJ] at he;cases he
    | some bg=>
      rw [eJ] at he;simp only at he ⊢;cases bk:bg.zero with
      | none=>rw [bk] at he;cases he
      | some z=>
        rw [bk] at he;simp only at he ⊢;cases ah:Nat.ble bg.bytes 4096 with
        | false=>rw [ah] at he;cases he
        | true=>rw [ah] at he;simpa only [aru,eP,G.run] using he
 case slice t x bS aw m3=>
  unfold G';cases aG:bd P t with
  | none=>rw [aG] at he;cases he
  | some aP=>
    rw [aG] at he;simp only at he ⊢;cases hu:aP.bl<;>rw [hu] at he<;>simp only at he ⊢<;>try (cases he;done)
    . simpa only [eP,L0,G.run] using he
    . rename_i e;cases eJ:bd P e with
      | none=>rw [eJ] at he;cases he
      | some bg=>
        rw [eJ] at he;simp only [eP,L0,G.run] at he ⊢;generalize (rx x).aQ (eb cU)=q at he ⊢;cases q<;>exact he
 case fieldAddr t x i=>
  unfold EJ;cases av:rp P t i with
  | none=>rw [av] at he;cases he
  | some f=>
    rw [av] at he;simp only at he ⊢;cases aG:bd P f.type with
    | none=>rw [aG] at he;cases he
    | some kR=>
      rw [aG] at he;simp only at he ⊢;cases ah:Nat.beq kR.size 0 with
      | true=>rw [ah] at he;cases he
      | false=>rw [ah] at he;simpa only [arB,eP,G.run] using he
 case field t x i=>
  unfold EK;cases av:rp P t i with
  | none=>rw [av] at he;cases he
  | some f=>
    rw [av] at he;simp only [qG] at he ⊢;cases aG:bd P f.type with
    | none=>rw [aG] at he;cases he
    | some kR=>
      rw [aG] at he;simp only at he ⊢;cases ah:kR.agg with
      | true=>
        rw [ah] at he;simp only [aru,eP,G.run] at he ⊢;generalize (rx x).aQ (eb cU)=q at he ⊢;cases q<;>exact he
      | false=>
        rw [ah] at he;simp only [arB,eP,G.run] at he ⊢;generalize (rx x).aQ (eb cU)=q at he ⊢;cases q<;>exact he
 case indexAddr t x i=>
  unfold FR;cases aG:bd P t with
  | none=>rw [aG] at he;cases he
  | some aP=>
    rw [aG] at he;simp only at he ⊢;cases hu:aP.bl<;>rw [hu] at he<;>simp only at he ⊢<;>try (cases he;done)
    all_goals
     rename_i e;cases eJ:bd P e with
     | none=>rw [eJ] at he;cases he
     | some bg=>rw [eJ] at he;simpa only [eP,G.run] using he
 case index t x i=>
  cases aG:bd P t with
  | none=>rw [aG] at he;cases he
  | some aP=>
    rw [aG] at he;simp only at he;cases hu:aP.bl<;>rw [hu] at he<;>simp only [G.run] at he
    case string=>
     unfold tf;rw [aG];simp only [hu];simpa only [eP] using he
    all_goals simpa only [eP] using he
 case range t x=>
  unfold GP;cases aG:bd P t with
  | none=>rw [aG] at he;cases he
  | some aP=>
    rw [aG] at he;simp only at he ⊢;cases hu:aP.bl<;>rw [hu] at he<;>simp only at he ⊢<;>try (cases he;done)
    all_goals simp only [eP,G.run] at he ⊢
    all_goals first
     | exact he
     | (generalize (rx x).aQ (eb cU)=q at he ⊢
        cases q<;>exact he)
 case next it b=>
  cases b<;>simpa only [aru,arB,eP,G.run] using he
 case entry it=>simpa only [eP,G.run] using he
 case mapEntry t m k=>
  unfold F9;cases aG:bd P t with
  | none=>rw [aG] at he;cases he
  | some aP=>
    rw [aG] at he;simp only at he ⊢;cases hu:aP.bl<;>rw [hu] at he<;>simp only at he ⊢<;>try (cases he;done)
    rename_i br e;cases eJ:bd P e with
    | none=>rw [eJ] at he;cases he
    | some bg=>
      rw [eJ] at he;simp only at he ⊢;cases bk:bg.zero with
      | none=>rw [bk] at he;cases he
      | some z=>
        rw [bk] at he;simp only at he ⊢;cases ag:jl P br with
        | true=>rw [ag] at he;simpa only [aru,eP,G.run] using he
        | false=>
          rw [ag] at he;simp only [arB] at he ⊢;cases aU:mm P br with
          | true=>rw [aU] at he;simpa only [aru,eP,G.run] using he
          | false=>rw [aU] at he;cases he
 case entryStore t m st x=>simpa only [eP,G.run] using he
 case lookup t x k ok=>
  unfold F7;cases aG:bd P t with
  | none=>rw [aG] at he;cases he
  | some aP=>
    rw [aG] at he;simp only at he ⊢;cases hu:aP.bl<;>rw [hu] at he<;>simp only at he ⊢<;>try (cases he;done)
    rename_i br e;cases aB:bd P br with
    | none=>rw [aB] at he;cases he
    | some gp=>
      rw [aB] at he;simp only at he ⊢;cases eJ:bd P e with
      | none=>rw [eJ] at he;cases he
      | some bg=>
        rw [eJ] at he;simp only at he ⊢;cases bk:bg.zero with
        | none=>rw [bk] at he;cases he
        | some z=>
          rw [bk] at he;simp only at he ⊢;cases ko:w6 gp.bl with
          | none=>
            rw [ko] at he;simp only at he ⊢;cases av:k2 gp.bl with
            | true=>rw [av] at he;cases he
            | false=>
              rw [av] at he;simp only [arB] at he ⊢;cases ag:jl P br with
              | true=>rw [ag] at he;simpa only [aru,eP,G.run] using he
              | false=>
                rw [ag] at he;simp only [arB] at he ⊢;cases aU:mm P br with
                | true=>rw [aU] at he;simpa only [aru,eP,G.run] using he
                | false=>rw [aU] at he;cases he
          | some cZ=>
            rw [ko] at he;obtain ⟨al,ao⟩:=Lc ko;simp only [al,ao,aru];simpa only [eP,G.run] using he
 case mapUpdate t m k x=>
  unfold pO;cases aG:bd P t with
  | none=>rw [aG] at he;cases he
  | some aP=>
    rw [aG] at he;simp only at he ⊢;cases hu:aP.bl<;>rw [hu] at he<;>simp only at he ⊢<;>try (cases he;done)
    rename_i br e;cases aB:bd P br with
    | none=>rw [aB] at he;cases he
    | some gp=>
      rw [aB] at he;simp only at he ⊢;cases ko:w6 gp.bl with
      | none=>
        rw [ko] at he;simp only at he ⊢;cases av:k2 gp.bl with
        | true=>rw [av] at he;cases he
        | false=>
          rw [av] at he;simp only [arB] at he ⊢;cases ag:jl P br with
          | true=>rw [ag] at he;simpa only [aru,eP,G.run] using he
          | false=>
            rw [ag] at he;simp only [arB] at he ⊢;cases aU:mm P br with
            | true=>rw [aU] at he;simpa only [aru,eP,G.run] using he
            | false=>rw [aU] at he;cases he
      | some cZ=>
        rw [ko] at he;obtain ⟨al,ao⟩:=Lc ko;simp only [al,ao,aru];simpa only [eP,G.run] using he
 case insert t m k x=>
  unfold pO;cases aG:bd P t with
  | none=>rw [aG] at he;cases he
  | some aP=>
    rw [aG] at he;simp only at he ⊢;cases hu:aP.bl<;>rw [hu] at he<;>simp only at he ⊢<;>try (cases he;done)
    rename_i br e;cases aB:bd P br with
    | none=>rw [aB] at he;cases he
    | some gp=>
      rw [aB] at he;simp only at he ⊢;cases ko:w6 gp.bl with
      | none=>
        rw [ko] at he;simp only at he ⊢;cases av:k2 gp.bl with
        | true=>rw [av] at he;cases he
        | false=>
          rw [av] at he;simp only [arB] at he ⊢;cases ag:jl P br with
          | true=>rw [ag] at he;simpa only [aru,eP,G.run] using he
          | false=>
            rw [ag] at he;simp only [arB] at he ⊢;cases aU:mm P br with
            | true=>rw [aU] at he;simpa only [aru,eP,G.run] using he
            | false=>rw [aU] at he;cases he
      | some cZ=>
        rw [ko] at he;obtain ⟨al,ao⟩:=Lc ko;simp only [al,ao,aru];simpa only [eP,G.run] using he
 case makeMap t x=>
  unfold zk;cases aG:bd P t with
  | none=>rw [aG] at he;cases he
  | some aP=>
    rw [aG] at he;simp only at he ⊢;cases ah:Nat.beq (e2 aP.bl) 3 with
    | false=>rw [ah] at he;cases he
    | true=>rw [ah] at he;simpa only [aru,L0,G.run] using he
 case extract x i=>
  simp only [eP,G.run] at he ⊢;generalize (rx x).aQ (eb cU)=q at he ⊢;cases q<;>exact he
 case call c=>exact amY he
end
end
end Go.Proofs.YtgmhjhgoamjeeaaGreatDoor.aX
