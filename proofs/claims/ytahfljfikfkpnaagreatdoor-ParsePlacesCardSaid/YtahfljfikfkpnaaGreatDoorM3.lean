/- The abstract machine and its walks (a verified interpreter of the model's code: plain definitions and lemmas, no condition). Printed by a program from longer texts: names made short. -/
import Derived.Test.YtahfljfikfkpnaaGreatDoorM2
import Derived.Scope
import Derived.RangeFuncRecord
import Derived.Carry
import Derived.OpenShut
import Derived.ChangeSame
import Derived.Lib.Bytealg
import Derived.Lib.IndexMore
import Derived.Handed
import Derived.HandedShaped
import Derived.Shelf.SlIter.Sorted
import Derived.Shelf.SlIter.Nil
import Derived.StringKeys
import Derived.WideShapes
import Derived.Lib.ItoaNum
import Derived.Lib.Join
set_option linter.unusedSectionVars false
set_option linter.unusedSimpArgs false
set_option linter.unusedVariables false
set_option maxHeartbeats 64000000
noncomputable section
namespace Go.Proofs.YtahfljfikfkpnaaGreatDoor.bf
section
open Go Go.RowKit
variable [Lay]
theorem Eg {α:Type} (p q:α->Bool):∀(l:List α),(∀x ∈ l,q x=true->p x=true)->(∃x ∈ l,p x=true/\q x=false)->l.countP q<l.countP p
 | [],_,h=>by obtain ⟨x,ay,_⟩:=h;simp at ay
 | a::l,U,ad=>by
   have hle:l.countP q<=l.countP p:=List.countP_mono_left fun x ay=>U x (by simp [ay]);obtain ⟨x,ay,ai,aI⟩:=ad;simp only [aqN] at ay;rcases ay with rfl | ay
   . rw [List.countP_cons,List.countP_cons,ai,aI];simp;omega
   . have aT:=Eg p q l (fun y bg=>U y (by simp [bg])) ⟨x,ay,ai,aI⟩;have a_:=U a (by simp);rw [List.countP_cons,List.countP_cons];cases afy:q a with
     | true=>rw [a_ afy];simp;omega
     | false=>simp;omega
theorem y0 (e:Edge):Region.binds .any e=wS e:=by unfold Region.binds wS;cases e.ground<;>rfl
section
variable {P:Program}
theorem Ab {order:List Nat}:∀{bC:List Nat} {k j p:Nat},C5 order k bC=true->bC[j]? =some p->order[p]? =some (k+j)
 | [],_,j,p,_,h=>by simp at h
 | q::bC,k,j,p,ai,h=>by
   simp only [C5,aqi] at ai;cases j with
   | zero=>
     simp only [aqz,aqj] at h;subst h;have U:=ai.1;cases aI:order[q]? with
     | none=>rw [aI] at U;cases U
     | some i=>rw [aI] at U;rw [aqT] at U;rw [U];rfl
   | succ j=>
     have:=Ab ai.2 (show bC[j]? =some p by simpa using h);rw [this];congr 1;omega
theorem lu {ops:Array Oper}:∀{order:List Nat} {p i:Nat} {o:Oper},order[p]? =some i->ops[i]? =some o->(fA ops order)[p]? =some o
 | [],p,i,o,h,_=>by simp at h
 | x::xs,p,i,o,h,aU=>by
   cases p with
   | zero=>
     simp only [aqz,aqj] at h;subst h;simp [fA,aU]
   | succ p=>simpa [fA] using lu (show xs[p]? =some i by simpa using h) aU
theorem n1 {ops:Array Oper}:∀{order:List Nat},(fA ops order).length=order.length
 | []=>rfl
 | x::xs=>by simp [fA,n1 (order:=xs)]
structure Cert (P:Program) (au:Nat) (ops:Array Oper) (calls:Nat->eF) (es:List fj) (bZ:bQ) (aV:ae) (db:bQ) (aA:ae) (e7:List Nat) (order aF:List Nat) (N M:Nat) (lit:Bool):Prop where
 len:es.length=N
 CP:N<=ops.size
 z1:N<=M
 gX:∀k,k<ops.size->posOf aF k<ops.size/\order[posOf aF k]? =some k
 jM:∀p,p<ops.size->∃i,i<ops.size/\posOf aF i=p
 aV:cw es aA 0=aV
 bZ:eN es db 0=bZ
 step:∀i o,ops[i]? =some o->posOf aF i<N->∃e,es[posOf aF i]? =some e/\(cQ P au ops o).run (calls i) e.r e.h=.val e.v (cw es aA (posOf aF i+1))/\eN es db (posOf aF i+1)=(gl o.dst).run e.r e.v
 ov:∀i o,ops[i]? =some o->∃df,(eQ [] ops.toList)[i]? =some df/\nr i o=true/\(posOf aF i<M->
  ∀k ok,ops[k]? =some ok->posOf aF k<M->∃mk,(eQ [] ops.toList)[k]? =some mk/\pw i df (b8 ops o) o.dst k mk ok (Nat.blt (posOf aF k) (posOf aF i))=true/\(fr P o.op=true->eP P ok=true->posOf aF k<posOf aF i->gD df k=true\/(lit=true/\lk o=true/\lk ok=true)))
 ends:N ∈ e7
 mem:∀j o,ops[j]? =some o->eP P o=true->posOf aF j ∈ e7
 WU:∀s ∈ e7,(s=ops.size\/(s=N/\M=N))\/∃k o,ops[k]? =some o/\eP P o=true/\s=posOf aF k
 ask:∀j o,ops[j]? =some o->looks o.op=true->fr P o.op=false->posOf aF j<N->∃e,es[posOf aF j]? =some e/\∀s ∈ e7,
  ri P (eQ [] ops.toList) ops.toList aF j (((eQ [] ops.toList)[j]?).getD 0) s=true->∃c ab,(gu P c/\gB P c)/\(cQ P au ops o).run c e.r (cw es aA s)=.val e.v ab
 tail:M<ops.size->M=N/\∀k ok mk,ops[k]? =some ok->N<=posOf aF k->(eQ [] ops.toList)[k]? =some mk->∀j,j<ops.size->posOf aF j<N->gD mk j=true
 stop:N<ops.size->ops.size<=M->∃i0 bp m0,ops[i0]? =some bp/\posOf aF i0=N/\j5 bp.op=true/\(eQ [] ops.toList)[i0]? =some m0/\
  (∀k ok mk,ops[k]? =some ok->N<posOf aF k->(eQ [] ops.toList)[k]? =some mk->gD mk i0=true)/\
  (∀k ok,ops[k]? =some ok->hO ok=true->posOf aF k<N->gD m0 k=true)/\∃v ab,(cQ P au ops bp).run (calls i0) db aA=.cB v ab
theorem Ga {o:Oper} (h:j5 o.op=true):fr P o.op=true/\hO o=false:=by
 obtain ⟨dst,op,type,pos,after,guard⟩:=o;cases op<;>simp only [j5] at h<;>try (cases h;done)
 . rename_i c;obtain ⟨callee,args,types⟩:=c;cases callee<;>simp only at h<;>try (cases h;done)
   exact ⟨rfl,rfl⟩
 . exact ⟨rfl,rfl⟩
variable {au:Nat} {ops:Array Oper} {call:eF} {calls:Nat->eF} {es:List fj} {bZ:bQ} {aV:ae} {db:bQ} {aA:ae} {e7:List Nat} {order aF:List Nat} {N M:Nat} {lit:Bool}
theorem Cert.tT (C:Cert P au ops calls es bZ aV db aA e7 order aF N M lit) {k bG:Nat} (U:k<ops.size) (ad:bG<ops.size) (he:posOf aF k=posOf aF bG):k=bG:=by have a:=(C.gX k U).2;have b:=(C.gX bG ad).2;rw [he,b] at a;cases a;rfl
theorem Se {ops:Array Oper} {aF:List Nat} (aA:y8 P ops aF=true):∀i o,ops[i]? =some o->∃df,(eQ [] ops.toList)[i]? =some df/\nr i o=true/\
 ∀k ok,ops[k]? =some ok->∃mk,(eQ [] ops.toList)[k]? =some mk/\pw i df (b8 ops o) o.dst k mk ok (Nat.blt (posOf aF k) (posOf aF i))=true/\(fr P o.op=true->eP P ok=true->posOf aF k<posOf aF i->gD df k=true):=by
 intro i o aG;unfold y8 at aA;obtain ⟨df,U,ad⟩:=pz aA i o (by simpa using aG);simp only [aqW,aqi] at ad;refine ⟨df,U,ad.1,fun k ok ar=>?_⟩;obtain ⟨mk,c1,dF⟩:=pz ad.2 k ok (by simpa using ar);simp only [aqW,aqi] at dF;refine ⟨mk,c1,dF.1,fun aM bh a'=>?_⟩;have iv:=dF.2;rw [aM,bh,arP,show Nat.blt (posOf aF k) (posOf aF i)=true from by rw [aqS];exact a'] at iv;exact iv
theorem Cert.Nz (C:Cert P au ops calls es bZ aV db aA e7 order aF N M lit):∀p,p<=N->∀t,t<=top->
 (∃k o e,posOf aF k<p/\ops[k]? =some o/\o.dst=some t/\es[posOf aF k]? =some e/\T.get .bad (aE t) (eN es db p)=e.v)\/
 ((∀k o,posOf aF k<p->ops[k]? =some o->o.dst≠some t)/\T.get .bad (aE t) (eN es db p)=T.get .bad (aE t) bZ)
 | 0,_,t,aB=>.inr ⟨fun k o h=>by omega,by rw [C.bZ]⟩
 | p+1,aG,t,aB=>by
   obtain ⟨i,a',jt⟩:=C.jM p (by have:=C.CP;omega);have cL:ops[i]? =some ops[i]:=aqA a';obtain ⟨e,U,ad,aC⟩:=C.step i ops[i] cL (by omega);rw [jt] at U ad aC;have K5:eN es db p=e.r:=by simp [eN,U]
   have e0:=S1 (r:=e.r) (v:=e.v) (lG ad).1 aB;rw [aC,e0];by_cases aY:ops[i].dst=some t
   . rw [aqw aY];exact .inl ⟨i,_,e,by omega,cL,aY,by rw [jt];exact U,rfl⟩
   . rw [aqr aY,<-K5];rcases Cert.Nz C p (by omega) t aB with ⟨k,o,dP,an,av,aH,bP,cE⟩ | ⟨an,av⟩
     . exact .inl ⟨k,o,dP,by omega,av,aH,bP,cE⟩
     . refine .inr ⟨fun k o ar aU=>?_,av⟩;by_cases h1:k=i
       . subst h1;rw [cL] at aU;cases aU;exact aY
       . refine an k o ?_ aU;have q2:=(aql.1 aU).1;have:posOf aF k≠p:=fun e=>h1 (C.tT q2 a' (by rw [e,jt]));omega
theorem Cert.Jt (C:Cert P au ops calls es bZ aV db aA e7 order aF N M lit):∀p,p<=N->T.get .bad fF (eN es db p)=T.get .bad fF bZ
 | 0,_=>by rw [C.bZ]
 | p+1,aG=>by
   obtain ⟨i,a',jt⟩:=C.jM p (by have:=C.CP;omega);have cL:ops[i]? =some ops[i]:=aqA a';obtain ⟨e,U,ad,aC⟩:=C.step i ops[i] cL (by omega);rw [jt] at U ad aC;have K5:eN es db p=e.r:=by simp [eN,U]
   have aY:=(lG ad).1;rw [aC,<-Cert.Jt C p (by omega),K5];cases aeI:ops[i].dst with
   | none=>rfl
   | some d=>
     rw [aeI] at aY;simp only [fm,aqi,aqE] at aY;simp only [gl];rw [T.ja,aqr (yb aY.2)]
def nameAt (es:List fj) (aA:ae) (aF:List Nat) (k:Nat):aN:=aE (cw es aA (posOf aF k)).next
def Bi (es:List fj) (aA:ae) (aF:List Nat) (k:Nat):cz:=(cw es aA (posOf aF k+1)).get (nameAt es aA aF k)
def Made (es:List fj) (aA:ae) (aF:List Nat) (k:Nat):Prop:=(cw es aA (posOf aF k+1)).next≠(cw es aA (posOf aF k)).next
def k5 (ops:Array Oper) (es:List fj) (aA:ae) (aF:List Nat) (listed:Array Bool) (s k:Nat):Prop:=
 ∃o,ops[k]? =some o/\(hO o=true/\Made es aA aF k)/\¬listed.getD k false=true/\posOf aF k<s
structure Holds (al F:Fr) (es:List fj) (aA:ae) (aF:List Nat) (D:Nat->Prop):Prop where
 w:F.w=al.w
 cA:∀b,(∀k,D k->nameAt es aA aF k≠b)->F.iK b=al.iK b
 new:∀k,D k->F.iK (nameAt es aA aF k)=some (Bi es aA aF k)/\al.iK (nameAt es aA aF k)=none
 inj:∀k bG,D k->D bG->nameAt es aA aF k=nameAt es aA aF bG->k=bG
theorem Holds.congr {al F:Fr} {D OZ:Nat->Prop} (H:Holds al F es aA aF D) (h:∀k,OZ k↔D k):Holds al F es aA aF OZ:=
 ⟨H.w,fun b ah=>H.cA b fun k ar=>ah k ((h k).2 ar),fun k ar=>H.new k ((h k).1 ar),fun k bG ar jb=>H.inj k bG ((h k).1 ar) ((h bG).1 jb)⟩
theorem Holds.none {al F:Fr} {D:Nat->Prop} (H:Holds al F es aA aF D) (h:∀k,¬D k):F=al:=by have:F.iK=al.iK:=funext fun b=>H.cA b fun k ar=>absurd ar (h k);cases F;cases al;have hw:=H.w;simp only at this hw;rw [this,hw]
theorem Cert.advance (C:Cert P au ops calls es bZ aV db aA e7 order aF N M lit) {al:Fr} {listed:Array Bool} {E:Env} {w:World}:∀(d q:Nat),q+d=N->(∀k o,ops[k]? =some o->hO o=true->q<=posOf aF k->¬listed.getD k false=true)->
 ∀F,Holds al F es aA aF (k5 ops es aA aF listed q)->a6 F E (cw es aA q) w->
 ∃s ew,s ∈ e7/\q<=s/\s<=N/\(∀k o,ops[k]? =some o->eP P o=true->q<=posOf aF k->s<=posOf aF k)/\Holds al ew es aA aF (k5 ops es aA aF listed s)/\a6 ew E (cw es aA s) w
 | 0,q,aI,_,F,H,S=>by
   have:q=N:=by omega
   subst this;exact ⟨q,F,C.ends,aqh _,aqh _,fun k o _ _ h=>h,H,S⟩
 | d+1,q,aI,vd,F,H,S=>by
   obtain ⟨i,a',jt⟩:=C.jM q (by have:=C.CP;omega);have cL:ops[i]? =some ops[i]:=aqA a';cases nF:eP P ops[i] with
   | true=>exact ⟨q,F,by rw [<-jt];exact C.mem i _ cL nF,aqh _,by omega,fun k o _ _ h=>h,H,S⟩
   | false=>
     obtain ⟨e,U,ad,aC⟩:=C.step i ops[i] cL (by omega);rw [jt] at U ad;have vc:cw es aA q=e.h:=by simp [cw,U]
     have only:∀k o,ops[k]? =some o->posOf aF k=q->k=i:=fun k o ar ai=>C.tT (aql.1 ar).1 a' (by rw [ai,jt]);have fin:∀ew,Holds al ew es aA aF (k5 ops es aA aF listed (q+1))->a6 ew E (cw es aA (q+1)) w->
      ∃s ew,s ∈ e7/\q<=s/\s<=N/\(∀k o,ops[k]? =some o->eP P o=true->q<=posOf aF k->s<=posOf aF k)/\Holds al ew es aA aF (k5 ops es aA aF listed s)/\a6 ew E (cw es aA s) w:=by
      intro ew jC DV;obtain ⟨s,XV,g1,g2,g3,g4,g5,g6⟩:=Cert.advance C d (q+1) (by omega) (fun k o U ad aC=>vd k o U ad (by omega)) ew jC DV;refine ⟨s,XV,g1,by omega,g3,fun k o ar aq ai=>g4 k o ar aq ?_,g5,g6⟩;by_cases Fj:posOf aF k=q
      . have:=only k o ar Fj;subst this;rw [cL] at ar;cases ar;rw [nF] at aq;cases aq
      . omega
     have pass:cw es aA (q+1)=e.h->(hO ops[i]=true->¬Made es aA aF i)->∃s ew,s ∈ e7/\q<=s/\s<=N/\(∀k o,ops[k]? =some o->eP P o=true->q<=posOf aF k->s<=posOf aF k)/\Holds al ew es aA aF (k5 ops es aA aF listed s)/\a6 ew E (cw es aA s) w:=by
      intro zB oD;rw [<-vc] at zB;refine fin F (H.congr fun k=>⟨?_,?_⟩) (by rw [zB];exact S)
      . rintro ⟨o,an,av,aH,bP⟩;refine ⟨o,an,av,aH,?_⟩;have:posOf aF k≠q:=fun e=>by
         have:=only k o an e;subst this;rw [cL] at an;cases an;exact oD av.1 av.2
        omega
      . rintro ⟨o,an,av,aH,bP⟩;exact ⟨o,an,av,aH,by omega⟩
     cases a_:hO ops[i] with
     | true=>
      rcases Sb a_ ad with ⟨dL,c1,dF⟩ | ⟨c1,_⟩
      ·
       have az:=S.hold dL;have aL:nameAt es aA aF i=aE (cw es aA q).next:=by unfold nameAt;rw [jt]
       have ah:Bi es aA aF i=dL:=by unfold Bi;rw [aL,jt,c1,vc,ae.jY,aqw rfl]
       rw [vc,<-c1] at az;have afg:Made es aA aF i:=by unfold Made;rw [jt,c1,vc];exact Nat.succ_ne_self _
       have sc:¬listed.getD i false=true:=vd i _ cL a_ (by omega);have IX:∀k,k5 ops es aA aF listed (q+1) k->k=i\/k5 ops es aA aF listed q k:=by
        rintro k ⟨o,an,av,aH,bP⟩;by_cases Fj:posOf aF k=q
        . exact .inl (only k o an Fj)
        . exact .inr ⟨o,an,av,aH,by omega⟩
       have fresh:∀b zQ,F.iK b=some zQ->b≠nameAt es aA aF i:=by intro b zQ pZ heq;obtain ⟨_,_,j,sj,ra⟩:=S.qm b zQ pZ;rw [heq,aL] at ra;rw [vc] at sj ra;have:=lv ra;omega
       have T7:∀b,b≠nameAt es aA aF i->(F.hold (aE e.h.next) dL).iK b=F.iK b:=by intro b Th;rw [aL,vc] at Th;simp only [Fr.hold,aqr Th]
       have Zl:(F.hold (aE e.h.next) dL).iK (nameAt es aA aF i)=some dL:=by rw [aL,vc];simp only [Fr.hold,aqu]
       have ne:∀k,k5 ops es aA aF listed q k->nameAt es aA aF k≠nameAt es aA aF i:=fun k ar=>fresh _ _ (H.new k ar).1;refine fin (F.hold (aE e.h.next) dL) ⟨H.w,fun b pZ=>?_,fun k ar=>?_,fun k bG ar jb he=>?_⟩ az
       . have xg:b≠nameAt es aA aF i:=fun e=>pZ i ⟨_,cL,⟨a_,afg⟩,sc,by omega⟩ e.symm;rw [T7 b xg];exact H.cA b fun k ar=>pZ k (by obtain ⟨o,an,av,aH,bP⟩:=ar;exact ⟨o,an,av,aH,by omega⟩)
       . rcases IX k ar with rfl | ar
         . refine ⟨by rw [Zl,ah],?_⟩;cases ai:al.iK (nameAt es aA aF k) with
           | none=>rfl
           | some zQ=>
             exfalso;have:=H.cA (nameAt es aA aF k) fun bG jb=>ne bG jb;rw [ai] at this;exact fresh _ _ this rfl
         . rw [T7 _ (ne k ar)];exact H.new k ar
       . rcases IX k ar with rfl | ar<;>rcases IX bG jb with rfl | jb
         . rfl
         . exact absurd he.symm (ne bG jb)
         . exact absurd he (ne k ar)
         . exact H.inj k bG ar jb he
      . refine pass c1 fun _ hm=>hm ?_;rw [jt,c1,vc]
     | false=>
       have dK:fr P ops[i].op=false:=by unfold eP at nF;rw [a_] at nF;simpa using nF
       exact pass (wY dK ad).1 fun h=>by rw [a_] at h;cases h
structure rD (P:Program) (al:Fr) (au:Nat) (ops:Array Oper) (es:List fj) (bZ:bQ) (aA:ae) (e7 aF:List Nat) (jo:Env) (N:Nat) (D:List Deferred) (listed:Array Bool) (a:Act) (w:World):Prop where
 tK:listed.size=ops.size
 size:a.tmps.size=au
 defers:a.defers=D
 uS:∀k,listed.getD k false=true->posOf aF k<N
 down:rF ops fun k=>listed.getD k false=true
 main:∃E s F,jo.le E/\s ∈ e7/\s<=N/\(∀k o,ops[k]? =some o->eP P o=true->(listed.getD k false=true↔posOf aF k<s))/\
  (∀k o,ops[k]? =some o->hO o=true->listed.getD k false=true->posOf aF k<s)/\Holds al F es aA aF (k5 ops es aA aF listed s)/\a6 F E (cw es aA s) w/\
  ∀t,t<=top->(∃k o e,listed.getD k false=true/\ops[k]? =some o/\o.dst=some t/\es[posOf aF k]? =some e/\Rel E e.v (a.tmps.getD t undef))\/
   ((∀k o,listed.getD k false=true->ops[k]? =some o->o.dst≠some t)/\Rel E (T.get .bad (aE t) bZ) (a.tmps.getD t undef))
theorem u1 {l:Array Bool} {i:Nat}:l.getD i false=true↔l[i]? =some true:=by
 rw [aqM];cases l[i]? with
 | none=>simp
 | some b=>cases b<;>simp
theorem gT {l:Array Bool} {i k:Nat} (aG:i<l.size):(l.setIfInBounds i true).getD k false=true↔(k=i\/l.getD k false=true):=by
 rw [u1,u1,aqF];by_cases h:i=k
 . subst h;simp [aG]
 . have:¬k=i:=fun e=>h e.symm;simp [h,this]
theorem EA {r:bQ} {t:Nat} (aB:t<=top):∀{l:List Oper},T.get .bad (aE t) (nC r l)=.bad\/(T.get .bad (aE t) (nC r l)=T.get .bad (aE t) r/\∀o ∈ l,o.dst≠some t)
 | []=>.inr ⟨rfl,fun o aU=>by simp at aU⟩
 | o::os=>by
   simp only [nC];cases aY:o.dst with
   | none=>
     simp only;rcases EA (r:=r) aB (l:=os) with h | ⟨U,ad⟩
     . exact .inl h
     . exact .inr ⟨U,fun cm hz=>by
        rcases aqN.1 hz with rfl | hz
        . rw [aY];simp
        . exact ad cm hz⟩
   | some d=>
     simp only;cases ah:Nat.ble d top with
     | true=>
       simp only [aqo];rw [T.ja];by_cases xn:d=t
       . subst xn;rw [aqw rfl];exact .inl rfl
       . rw [aqr (fun e=>xn (lv e))];rcases EA (r:=r) aB (l:=os) with h | ⟨U,ad⟩
         . exact .inl h
         . exact .inr ⟨U,fun cm hz=>by
            rcases aqN.1 hz with rfl | hz
            . rw [aY];simpa using xn
            . exact ad cm hz⟩
     | false=>
       simp only [aqt];have xn:d≠t:=fun e=>by subst e;rw [<-Nat.ble_eq] at aB;rw [aB] at ah;cases ah
       rcases EA (r:=r) aB (l:=os) with h | ⟨U,ad⟩
       . exact .inl h
       . exact .inr ⟨U,fun cm hz=>by
          rcases aqN.1 hz with rfl | hz
          . rw [aY];simpa using xn
          . exact ad cm hz⟩
theorem Ez {r:bQ}:∀{l:List Oper},T.get .bad fF (nC r l)=T.get .bad fF r
 | []=>rfl
 | o::os=>by
   simp only [nC];cases aY:o.dst with
   | none=>exact Ez
   | some d=>
     simp only;cases ah:Nat.ble d top with
     | true=>
       simp only [aqo];rw [T.ja,aqr (yb (aqQ ah))];exact Ez
     | false=>exact Ez
theorem Si {rd:Option Nat} {D:List Deferred} {al:Fr} (bO:eO P) (cH:∀i,gu P (calls i)) (eu:∀i,gB P (calls i)) (C:Cert P au ops calls es bZ aV db aA e7 order aF N M lit) {jo:Env} {listed:Array Bool} {a:Act} {w:World} (I:rD P al au ops es bZ aA e7 aF jo N D listed a w)
 {i:Nat} (aG:i ∈ Region.ready .any ops listed) (aeZ:posOf aF i<M) (xu:lit=true->∀o k ok,ops[i]? =some o->lk o=true->ops[k]? =some ok->lk ok=true->posOf aF k<posOf aF i->listed.getD k false=true) {Q:Exit->Act->World->Prop} {K:Act->World->Prop} (ep:∀a1 w',rD P al au ops es bZ aA e7 aF jo N D (listed.setIfInBounds i true) a1 w'->K a1 w')
 (cR:∀aw a1 w' x v ab,jo.le aw->N<ops.size->ops.size<=M->(∃i0 bp,ops[i0]? =some bp/\posOf aF i0=N/\(cQ P au ops bp).run (calls i0) db aA=.cB v ab)->RegRel0 aw au (nC bZ ops.toList) a1->a1.defers=D->Rel aw v x->a6 al aw ab w'->Q (.panic (l3 x)) a1 w'):wpOpIn (aK rd) 0 P ops Q i K a w:=by
 rw [mem_ready] at aG;obtain ⟨E,s,F,eB,az,Fo,nH,e_,lf,sf,xD⟩:=I.main;obtain ⟨vd,o,cL,xo⟩:=aG;have gP:i<ops.size:=(aql.1 cL).1;have ve:¬listed.getD i false=true:=by rw [u1];intro h;rw [aqM,h] at vd;simp at vd
 have TD:=CK I.down ops.toList [] (fun j=>by simp) (fun k m j ar=>by simp at ar);have zm:rF ops fun k=>listed.getD k false=true\/k=i:=by
  intro k ok e ar bT he ah;rcases ar with ar | rfl
  . exact .inl (I.down k ok e ar bT he ah)
  . rw [cL] at bT;cases bT;exact .inl (xo e (arV.1 he) (by rw [y0];exact ah))
 have afe:=CK zm ops.toList [] (fun j=>by simp) (fun k m j ar=>by simp at ar);obtain ⟨df,nI,jI,Fi⟩:=C.ov i o cL;have Fi:=Fi aeZ;have J3:=C.z1;have BN:∀k,k≠i->gD df k=true->listed.getD k false=true:=by
  intro k ar ah;rcases afe i df k nI ah (.inr rfl) with h | h
  . exact h
  . exact absurd h ar
 have hA:=(C.gX i gP).1;have aft:posOf aF i<=N:=by
  rcases ark N (posOf aF i) with aeV | hle
  . exfalso;have EY:ops.size<=M:=by
     rcases ark M ops.size with h | h
     . have:=(C.tail h).1;omega
     . exact h
    obtain ⟨i0,bp,m0,cp,z2,z3,z4,z5,_⟩:=C.stop (by omega) EY;have ah:=z5 i o df cL aeV nI;have U:=BN i0 (fun e=>by subst e;omega) ah;have:=I.uS i0 U;omega
  . exact hle
 have uniq:∀(k bG:Nat) (ok l1:Oper) (t:Nat),ops[k]? =some ok->ops[bG]? =some l1->posOf aF k<M->posOf aF bG<M->ok.dst=some t->l1.dst=some t->k=bG:=by
  intro k bG ok l1 t U ad ct c6 aC aX;obtain ⟨mk,_,_,ai⟩:=C.ov k ok U;obtain ⟨mk',_,iF,_⟩:=ai ct bG l1 ad c6;unfold pw at iF;rw [iE] at iF;by_cases lg:k=bG
  . exact lg
  . rw [aqr lg,aX,aC] at iF;simp at iF
 have V':jk (b8 ops o)=true->∀t ∈ b8 ops o,Rel E (T.get .bad (aE t) (eN es db (posOf aF i))) (a.tmps.getD t undef):=by
  intro TV t aB;have zG:t<=top:=by have:=aqR.1 TV t aB;exact aqQ this
  have VD:∀(k:Nat) (ok:Oper),k≠i->posOf aF k<M->ops[k]? =some ok->ok.dst=some t->∃mk,(eQ [] ops.toList)[k]? =some mk/\(posOf aF k<posOf aF i->gD df k=true)/\(¬posOf aF k<posOf aF i->gD mk i=true):=by
   intro k ok ar Kz bT aY;obtain ⟨mk,an,av,_⟩:=Fi k ok bT Kz;refine ⟨mk,an,?_⟩;unfold pw at av;rw [iE,aqr (fun e=>ar e.symm),aY] at av;simp only [aqi] at av;have aH:=av.1;rw [show (b8 ops o).contains t=true from by simpa using aB] at aH;simp only [aqo] at aH;refine ⟨fun a'=>?_,fun kR=>?_⟩
   . rw [show Nat.blt (posOf aF k) (posOf aF i)=true from by rw [aqS];exact a'] at aH;exact aH
   . rw [show Nat.blt (posOf aF k) (posOf aF i)=false from by rw [<-Bool.not_eq_true,aqS];exact kR] at aH;exact aH
  rcases C.Nz (posOf aF i) aft t zG with ⟨k,ok,Ep,an,av,aH,bP,cE⟩ | ⟨an,av⟩
  . obtain ⟨mk,_,bb,_⟩:=VD k ok (fun e=>by subst e;omega) (by omega) av aH;have afb:=BN k (fun e=>by subst e;omega) (bb an);rcases xD t zG with ⟨bG,l1,Jy,cc,cy,eD,jN,rl⟩ | ⟨cc,_⟩
    . have:=uniq k bG ok l1 t av cy (by omega) (by have:=I.uS bG cc;omega) aH eD;subst this;rw [bP] at jN;cases jN;rw [cE];exact rl
    . exact absurd aH (cc k ok afb av)
  . rcases xD t zG with ⟨bG,l1,Jy,cc,cy,eD,jN,rl⟩ | ⟨_,cy⟩
    . have h1:bG≠i:=fun e=>ve (e ▸ cc);obtain ⟨mk,m1,_,bI⟩:=VD bG l1 h1 (by have:=I.uS bG cc;omega) cy eD;by_cases a':posOf aF bG<posOf aF i
      . exact absurd eD (an bG l1 a' cy)
      . exact absurd (TD bG mk i m1 (bI a') cc) ve
    . rw [av];exact cy
 have level:fr P o.op=true->s<=posOf aF i->s=posOf aF i/\hO o=false:=by
  intro nd hle;rcases C.WU s az with (h | ⟨h,EX⟩) | ⟨k,ok,c1,dF,iv⟩
  . omega
  . omega
  . have TI:¬listed.getD k false=true:=fun h=>by have:=(nH k ok c1 dF).1 h;omega
    have q2:=(aql.1 c1).1;by_cases h1:k=i
    . subst h1;rw [cL] at c1;cases c1;refine ⟨iv,?_⟩;unfold eP at dF;simpa [nd] using dF
    . have a':posOf aF k<posOf aF i:=by
       have:posOf aF k≠posOf aF i:=fun e=>h1 (C.tT q2 gP e);omega
      obtain ⟨mk,_,_,aH⟩:=Fi k ok c1 (by omega);rcases aH nd dF a' with h | ⟨g1,g2,g3⟩
      . exact absurd (BN k h1 h) TI
      . exact absurd (xu g1 o k ok cL g2 c1 g3 a') TI
 rcases ark (posOf aF i) N with KJ | apc
 case inr=>
  have lS:posOf aF i=N:=by omega
  have EY:ops.size<=M:=by
   rcases ark M ops.size with h | h
   . have:=(C.tail h).1;omega
   . exact h
  obtain ⟨i0,bp,m0,cp,z2,z3,z4,z5,OL,v,ab,OM⟩:=C.stop (by omega) EY;have ae1:i0=i:=C.tT (aql.1 cp).1 gP (by rw [z2,lS]);subst ae1;rw [cL] at cp;cases cp;rw [nI] at z4;cases z4;obtain ⟨nd,afk⟩:=Ga z3;have u9:eP P o=true:=by unfold eP;rw [nd,afk];rfl
  have Lb:s<=posOf aF i0:=by
   rcases ark (posOf aF i0) s with h | h
   . exact absurd ((nH i0 o cL u9).2 h) ve
   . exact h
  have zC:=(level nd Lb).1;have lL:F=al:=lf.none fun k ar=>by
   obtain ⟨ok,an,av,aH,bP⟩:=ar;have h1:k≠i0:=fun e=>by subst e;omega
   exact aH (BN k h1 (OL k ok an av.1 (by omega)))
  subst lL;have eC:es[N]? =none:=aqL (by rw [C.len];exact aqh _);have lT:=V' (Jo OM).2;rw [lS] at lT;simp only [eN,eC] at lT;rw [zC,lS] at sf;simp only [cw,eC] at sf;refine R_ bO (cH i0) (eu i0) cL OM z3 I.size lT sf fun aw x w' an av aH=>cR aw a w' x v ab (eB.trans an) (by omega) EY ⟨i0,o,cL,lS,OM⟩ ⟨I.size,fun t aB=>?_⟩ I.defers av aH;rcases EA (r:=bZ) aB (l:=ops.toList) with h | ⟨U,ad⟩
  . rw [h];simp [Rel]
  . rw [U];rcases xD t aB with ⟨k,ok,Ep,cc,cy,eD,jN,rl⟩ | ⟨cc,cy⟩
    . exact absurd eD (ad ok (by rw [<-Array.getElem?_toList] at cy;exact aqX cy))
    . exact Rel.mono an _ _ cy
 obtain ⟨e,r6,da,aps⟩:=C.step i o cL KJ;have gi:=lG da;have fH:eN es db (posOf aF i)=e.r:=by simp [eN,r6]
 have kS:cw es aA (posOf aF i)=e.h:=by simp [cw,r6]
 have reads:=V' gi.2;rw [fH] at reads;have hy:i<listed.size:=by rw [I.tK];exact gP
 have after:∀(iL:Nat) (ew:Fr) (aw:Env) (x:Value) (w':World),iL ∈ e7->iL<=N->(∀k ok,ops[k]? =some ok->eP P ok=true->((k=i\/listed.getD k false=true)↔posOf aF k<iL))->
  (∀k ok,ops[k]? =some ok->hO ok=true->(k=i\/listed.getD k false=true)->posOf aF k<iL)->
  Holds al ew es aA aF (k5 ops es aA aF (listed.setIfInBounds i true) iL)->E.le aw->Rel aw e.v x->a6 ew aw (cw es aA iL) w'->
  rD P al au ops es bZ aA e7 aF jo N D (listed.setIfInBounds i true) (a.put o.dst x) w':=by
  intro iL ew aw x w' kF afJ gH E1 aeW hle ay afI
  refine ⟨by simp [I.tK],by cases h:o.dst<;>simp [Act.put,I.size],by cases h:o.dst<;>simp [Act.put,I.defers],fun k ar=>by
   rcases (gT hy).1 ar with rfl | ar
   . exact KJ
   . exact I.uS k ar,?_,aw,iL,ew,eB.trans hle,kF,afJ,fun k ok U ad=>by rw [gT hy];exact gH k ok U ad,
   fun k ok U ad aC=>E1 k ok U ad ((gT hy).1 aC),aeW,afI,fun t aB=>?_⟩
  . intro k ok dP ar bT fq ah;rw [gT hy] at ar ⊢;rcases zm k ok dP ar.symm bT fq ah with h | h
    . exact .inr h
    . exact .inl h
  . by_cases aY:o.dst=some t
    . refine .inl ⟨i,o,e,by rw [gT hy];exact .inl rfl,cL,aY,r6,?_⟩;have a':t<a.tmps.size:=by
       have:=gi.1;rw [aY] at this;simp only [fm,aqi,aqS] at this;rw [I.size];exact this.1
      rw [aY];simp only [Act.put];rw [aqM,aqF,aqw rfl,aqw a'];exact ay
    . have e0:(a.put o.dst x).tmps.getD t undef=a.tmps.getD t undef:=by
       cases afo:o.dst with
       | none=>rfl
       | some d=>
         simp only [Act.put];rw [aqM,aqM,aqF,aqr (fun e=>aY (by rw [afo,e]))]
      rw [e0];rcases xD t aB with ⟨k,ok,Ep,cc,cy,eD,jN,rl⟩ | ⟨cc,cy⟩
      . exact .inl ⟨k,ok,Ep,by rw [gT hy];exact .inr cc,cy,eD,jN,Rel.mono hle _ _ rl⟩
      . refine .inr ⟨fun k ok ar bT=>?_,Rel.mono hle _ _ cy⟩;rw [gT hy] at ar;rcases ar with rfl | ar
        . rw [cL] at bT;cases bT;exact aY
        . exact cc k ok ar bT
 have Km:¬(hO o=true/\Made es aA aF i)->∀iL k,k5 ops es aA aF (listed.setIfInBounds i true) iL k↔k5 ops es aA aF listed iL k:=by
  intro a_ iL k;constructor
  . rintro ⟨ok,an,av,aH,bP⟩;exact ⟨ok,an,av,fun h=>aH ((gT hy).2 (.inr h)),bP⟩
  . rintro ⟨ok,an,av,aH,bP⟩;refine ⟨ok,an,av,fun h=>?_,bP⟩;rcases (gT hy).1 h with rfl | h
    . rw [cL] at an;cases an;exact a_ av
    . exact aH h
 cases nd:fr P o.op with
 | true=>
   cases a_:hO o with
   | true=>
     have a':posOf aF i<s:=by
      rcases ark (posOf aF i) s with h | h
      . exact h
      . have:=(level nd h).2;rw [a_] at this;cases this
     by_cases hm:Made es aA aF i
     case neg=>
      have K8:(cQ P au ops o).run (calls i) e.r (cw es aA s)=.val e.v (cw es aA s):=by
       rcases Sb a_ da with ⟨dL,c1,_⟩ | ⟨_,c1⟩
       . exact absurd (show Made es aA aF i from by unfold Made;rw [c1,kS];exact Nat.succ_ne_self _) hm
       . exact c1 _
      refine rW bO (cH i) (eu i) cL K8 I.size reads sf fun aw x w' an av aH=>ep _ _ (after s F aw x w' az Fo (fun k ok bT kD=>?_) (fun k ok bT q1 ar=>?_) (lf.congr fun k=>Km (fun h=>hm h.2) s k) an av aH)
      . constructor
        . rintro (rfl | h)
          . rw [cL] at bT;cases bT;unfold eP at kD;rw [a_] at kD;simp at kD
          . exact (nH k ok bT kD).1 h
        . intro h;exact .inr ((nH k ok bT kD).2 h)
      . rcases ar with rfl | ar
        . exact a'
        . exact e_ k ok bT q1 ar
     have lM:k5 ops es aA aF listed s i:=⟨o,cL,⟨a_,hm⟩,ve,a'⟩;have KL:(cw es aA (posOf aF i+1)).next≠e.h.next:=by rw [<-kS];exact hm
     have oD:nameAt es aA aF i=aE e.h.next:=by unfold nameAt;rw [kS]
     have nL:=(lf.new i lM).1;have zJ:=(lf.new i lM).2;have oz:Bi es aA aF i=(cw es aA (posOf aF i+1)).get (aE e.h.next):=by unfold Bi;rw [oD]
     rw [oD,oz] at nL;refine acn cL a_ da I.size reads sf KL nL fun aw x w' an av aH=>ep _ _ (after s (F.free (aE e.h.next)) aw x w' az Fo (fun k ok bT kD=>?_) (fun k ok bT q1 ar=>?_) ?_ an av aH)
     . constructor
       . rintro (rfl | h)
         . rw [cL] at bT;cases bT;unfold eP at kD;rw [a_] at kD;simp at kD
         . exact (nH k ok bT kD).1 h
       . intro h;exact .inr ((nH k ok bT kD).2 h)
     . rcases ar with rfl | ar
       . exact a'
       . exact e_ k ok bT q1 ar
     . have sub:∀k,k5 ops es aA aF (listed.setIfInBounds i true) s k->k5 ops es aA aF listed s k/\k≠i:=by
        rintro k ⟨ok,an,av,aH,bP⟩;refine ⟨⟨ok,an,av,fun h=>aH ((gT hy).2 (.inr h)),bP⟩,fun e=>aH ((gT hy).2 (.inl e))⟩
       refine ⟨lf.w,fun b ah=>?_,fun k ar=>?_,fun k bG ar jb=>lf.inj k bG (sub k ar).1 (sub bG jb).1⟩
       . by_cases xg:b=aE e.h.next
         . subst xg;simp only [Fr.free,aqu];rw [<-oD,zJ]
         . simp only [Fr.free,aqr xg];refine lf.cA b fun k ar=>?_;by_cases h1:k=i
           . subst h1;rw [oD];exact fun e=>xg e.symm
           . obtain ⟨ok,an,av,aH,bP⟩:=ar;refine ah k ⟨ok,an,av,fun h=>?_,bP⟩;rcases (gT hy).1 h with h | h
             . exact h1 h
             . exact aH h
       . obtain ⟨Ty,h1⟩:=sub k ar;have dK:nameAt es aA aF k≠aE e.h.next:=fun e=>h1 (lf.inj k i Ty lM (by rw [e,oD]))
         simp only [Fr.free,aqr dK];exact lf.new k Ty
   | false=>
     have u9:eP P o=true:=by unfold eP;rw [nd,a_];rfl
     have Lb:s<=posOf aF i:=by
      rcases ark (posOf aF i) s with h | h
      . exact absurd ((nH i o cL u9).2 h) ve
      . exact h
     have zC:=(level nd Lb).1;rw [<-kS,<-zC] at da;refine rW bO (cH i) (eu i) cL da I.size reads sf fun aw x w' an av aH=>?_;rw [zC] at aH;have afa:∀k ok,ops[k]? =some ok->hO ok=true->posOf aF i+1<=posOf aF k->¬(listed.setIfInBounds i true).getD k false=true:=by
      intro k ok bT q1 ai h;rcases (gT hy).1 h with rfl | h
      . omega
      . have:=e_ k ok bT q1 h;omega
     have aeY:Holds al F es aA aF (k5 ops es aA aF (listed.setIfInBounds i true) (posOf aF i+1)):=by
      refine lf.congr fun k=>?_;rw [Km (fun h=>by rw [a_] at h;cases h.1)];constructor
      . rintro ⟨ok,cp,z2,z3,z4⟩;refine ⟨ok,cp,z2,z3,?_⟩;have q2:=(aql.1 cp).1;have:posOf aF k≠posOf aF i:=fun e=>by
         have:=C.tT q2 gP e;subst this;rw [cL] at cp;cases cp;rw [a_] at z2;cases z2.1
        omega
      . rintro ⟨ok,cp,z2,z3,z4⟩;exact ⟨ok,cp,z2,z3,by omega⟩
     obtain ⟨iL,ew,g1,g2,g3,g4,g5,g6⟩:=C.advance (N - (posOf aF i+1)) (posOf aF i+1) (by omega) afa F aeY aH;refine ep _ _ (after iL ew aw x w' g1 g3 (fun k ok bT kD=>?_) (fun k ok bT q1 ar=>?_) g5 an av g6)
     . have q2:=(aql.1 bT).1;constructor
       . rintro (rfl | h)
         . omega
         . have:=(nH k ok bT kD).1 h;omega
       . intro h;by_cases h1:k=i
         . exact .inl h1
         . refine .inr ((nH k ok bT kD).2 ?_);rcases ark (posOf aF k) s with ba | ba
           . exact ba
           . have dK:posOf aF k≠posOf aF i:=fun e=>h1 (C.tT q2 gP e);have:=g4 k ok bT kD (by omega);omega
     . rcases ar with rfl | ar
       . omega
       . have:=e_ k ok bT q1 ar;omega
 | false=>
   have a_:hO o=false:=by
    cases h:hO o with
    | false=>rfl
    | true=>rw [agr h] at nd;cases nd
   obtain ⟨c,aq,K8⟩:∃c,(gu P c/\gB P c)/\(cQ P au ops o).run c e.r (cw es aA s)=.val e.v (cw es aA s):=by
    cases bM:looks o.op with
    | false=>exact ⟨_,⟨cH i,eu i⟩,(wY nd da).2 bM _⟩
    | true=>
      obtain ⟨dP,an,av⟩:=C.ask i o cL bM nd KJ;rw [r6] at an;cases an
      obtain ⟨c,ab,aq,aH⟩:=av s az (OO (by rw [L0];simp) fun k mk ok U ad=>by
       simp only [aqW];have bT:ops[k]? =some ok:=by simpa using ad
       cases xw:eP P ok with
       | false=>rfl
       | true=>
         simp only [aqo];cases BY:Nat.blt (posOf aF k) s with
         | true=>
           rw [aqS] at BY;simp only [aqo,arb];cases ah:gD mk i with
           | false=>rfl
           | true=>exact absurd (TD k mk i U ah ((nH k ok bT xw).2 BY)) ve
         | false=>
           have ae9:¬posOf aF k<s:=by rw [<-Nat.blt_eq,BY];simp
           simp only [aqt,arb,nI,arD];cases ah:gD df k with
           | false=>rfl
           | true=>
             by_cases h1:k=i
             . subst h1;rw [cL] at bT;cases bT;unfold eP at xw;rw [nd] at xw;cases xw
             . exact absurd ((nH k ok bT xw).1 (BN k h1 ah)) ae9)
      rw [(wY nd aH).1] at aH;exact ⟨c,aq,aH⟩
   refine rW bO aq.1 aq.2 cL K8 I.size reads sf fun aw x w' an av aH=>ep _ _ (after s F aw x w' az Fo (fun k ok bT kD=>?_) (fun k ok bT q1 ar=>?_) (lf.congr fun k=>Km (fun h=>by rw [a_] at h;cases h.1) s k) an av aH)
   . constructor
     . rintro (rfl | h)
       . rw [cL] at bT;cases bT;unfold eP at kD;rw [nd] at kD;cases kD
       . exact (nH k ok bT kD).1 h
     . intro h;exact .inr ((nH k ok bT kD).2 h)
   . rcases ar with rfl | ar
     . rw [cL] at bT;cases bT;rw [a_] at q1;cases q1
     . exact e_ k ok bT q1 ar
theorem R' {D:List Deferred} {al:Fr} (C:Cert P au ops calls es bZ aV db aA e7 order aF N M lit) {jo:Env} (J3:N<=M) {listed:Array Bool} {a:Act} {w:World} (I:rD P al au ops es bZ aA e7 aF jo N D listed a w)
 (e_:∀k,k<ops.size->posOf aF k<N->listed.getD k false=true):∃aw,jo.le aw/\RegRel0 aw au db a/\a.defers=D/\a6 al aw aA w:=by
 obtain ⟨E,s,F,eB,az,Fo,nH,_,lf,sf,xD⟩:=I.main;have eC:es[N]? =none:=aqL (by rw [C.len];exact aqh _);have xr:cw es aA N=aA:=by simp [cw,eC]
 have TS:eN es db N=db:=by simp [eN,eC]
 have zC:s=N:=by
  rcases C.WU s az with (h | ⟨h,_⟩) | ⟨k,ok,c1,dF,iv⟩
  . have:=C.CP;omega
  . exact h
  . rcases ark s N with a' | kR
    . have:=(nH k ok c1 dF).1 (e_ k (aql.1 c1).1 (by omega));omega
    . omega
 subst zC;have lL:F=al:=lf.none fun k ar=>by obtain ⟨ok,an,av,aH,bP⟩:=ar;exact aH (e_ k (aql.1 an).1 bP)
 subst lL;rw [xr] at sf;have EX:∀k,posOf aF k<s->posOf aF k<M:=fun k h=>by omega
 refine ⟨E,eB,⟨I.size,fun t aB=>?_⟩,I.defers,sf⟩;have afS:∀(k bG:Nat) (ok l1:Oper),ops[k]? =some ok->ops[bG]? =some l1->posOf aF k<s->posOf aF bG<s->ok.dst=some t->l1.dst=some t->k=bG:=by
  intro k bG ok l1 U ad ct c6 aC aX;obtain ⟨mk,_,_,ai⟩:=C.ov k ok U;obtain ⟨mk',_,iF,_⟩:=ai (EX k ct) bG l1 ad (EX bG c6);unfold pw at iF;rw [iE] at iF;by_cases lg:k=bG
  . exact lg
  . rw [aqr lg,aX,aC] at iF;simp at iF
 rcases C.Nz s (aqh _) t aB with ⟨k,ok,Ep,an,av,aH,bP,cE⟩ | ⟨an,av⟩
 . rw [TS] at cE;rcases xD t aB with ⟨bG,l1,Jy,cc,cy,eD,jN,rl⟩ | ⟨cc,_⟩
   . have:=afS k bG ok l1 av cy an (I.uS bG cc) aH eD;subst this;rw [bP] at jN;cases jN;rw [cE];exact rl
   . exact absurd aH (cc k ok (e_ k (aql.1 av).1 an) av)
 . rw [TS] at av;rcases xD t aB with ⟨bG,l1,Jy,cc,cy,eD,jN,rl⟩ | ⟨_,cy⟩
   . exact absurd eD (an bG l1 (I.uS bG cc) cy)
   . rw [av];exact cy
theorem Sg {rd:Option Nat} {D:List Deferred} {al:Fr} (bO:eO P) (cH:∀i,gu P (calls i)) (eu:∀i,gB P (calls i)) (C:Cert P au ops calls es bZ aV db aA e7 order aF N M false) {jo:Env} {Q:Exit->Act->World->Prop}
 (cR:N=ops.size->∀aw a1 w',jo.le aw->RegRel0 aw au db a1->a1.defers=D->a6 al aw aA w'->Q .normal a1 w')
 (ha:∀aw a1 w' x v ab,jo.le aw->N<ops.size->ops.size<=M->(∃i0 bp,ops[i0]? =some bp/\posOf aF i0=N/\(cQ P au ops bp).run (calls i0) db aA=.cB v ab)->RegRel0 aw au (nC bZ ops.toList) a1->a1.defers=D->Rel aw v x->a6 al aw ab w'->Q (.panic (l3 x)) a1 w')
 (d_:M<ops.size->∀(fuel:Nat) (listed:Array Bool) aw a1 w',(List.range ops.size).countP (fun i=>!listed.getD i false)<=fuel->listed.size=ops.size->rF ops (fun k=>listed.getD k false=true)->(∀k,k<ops.size->(listed.getD k false=true↔posOf aF k<N))->
   jo.le aw->RegRel0 aw au db a1->a1.defers=D->a6 al aw aA w'->wpAnyIn (aK rd) 0 P .any ops Q fuel listed a1 w'):∀(fuel:Nat) (listed:Array Bool) (a:Act) (w:World),(List.range ops.size).countP (fun i=>!listed.getD i false)<=fuel->
 rD P al au ops es bZ aA e7 aF jo N D listed a w->wpAnyIn (aK rd) 0 P .any ops Q fuel listed a w:=by
 have done:∀(listed:Array Bool) (a:Act) (w:World),rD P al au ops es bZ aA e7 aF jo N D listed a w->Region.ready .any ops listed=[]->∀i,i<ops.size->listed.getD i false=true:=by
  intro listed a w I aa i
  induction i using Nat.strongRecOn with
  | _ i aT=>
    intro aG;cases hy:listed.getD i false with
    | true=>rfl
    | false=>
      exfalso;have cL:ops[i]? =some ops[i]:=aqA aG;obtain ⟨df,_,jI,_⟩:=C.ov i _ cL;have:i ∈ Region.ready .any ops listed:=by
       rw [mem_ready];refine ⟨?_,ops[i],cL,fun e he ah=>?_⟩
       . have cX:i<listed.size:=by rw [I.tK];exact aG
         rw [aqM,aqA cX] at hy ⊢;exact hy
       . have U:=aqR.1 jI e (arV.2 he);rw [y0] at ah;rw [ah] at U;simp only [Bool.not_true,ar8,aqS] at U;exact aT e.on U (by omega)
      rw [aa] at this;simp at this
 have J3:=C.z1;have full:∀(listed:Array Bool) (a:Act) (w:World),rD P al au ops es bZ aA e7 aF jo N D listed a w->(∀k,k<ops.size->posOf aF k<N->listed.getD k false=true)->(N=ops.size\/(M<ops.size/\M=N))->
  ∃aw,jo.le aw/\RegRel0 aw au db a/\a.defers=D/\a6 al aw aA w:=fun _ _ _ I e_ _=>R' C J3 I e_
 have finish:∀(listed:Array Bool) (a:Act) (w:World),rD P al au ops es bZ aA e7 aF jo N D listed a w->Region.ready .any ops listed=[]->Q .normal a w:=by
  intro listed a w I aa;have e_:=done listed a w I aa;have J4:N=ops.size:=by
   rcases ark N ops.size with a' | kR
   . exfalso;obtain ⟨i,xt,pb⟩:=C.jM N a';have:=I.uS i (e_ i xt);omega
   . exact Nat.le_antisymm C.CP kR
  obtain ⟨aw,g1,g2,g3,g4⟩:=full listed a w I (fun k ar _=>e_ k ar) (.inl J4);exact cR J4 aw a w g1 g2 g3 g4
 intro fuel
 induction fuel with
 | zero=>
   intro listed a w aq I;have e_:∀i,i<ops.size->listed.getD i false=true:=by
    intro i aG;have aV:(List.range ops.size).countP (fun i=>!listed.getD i false)=0:=by omega
    rw [List.countP_eq_zero] at aV;simpa using aV i (arQ.2 aG)
   have aa:Region.ready .any ops listed=[]:=by
    cases aI:Region.ready .any ops listed with
    | nil=>rfl
    | cons j agC=>
      exfalso;have bU:j ∈ Region.ready .any ops listed:=by rw [aI];simp
      rw [mem_ready] at bU;obtain ⟨U,o,ad,_⟩:=bU;have:=e_ j (aql.1 ad).1;rw [u1] at this;rw [aqM,this] at U;simp at U
   exact ⟨aa,finish listed a w I aa⟩
 | succ fuel aT=>
   intro listed a w aq I;by_cases zF:M<ops.size/\∀k,k<ops.size->posOf aF k<N->listed.getD k false=true
   . obtain ⟨xd,e_⟩:=zF;obtain ⟨aw,g1,g2,g3,g4⟩:=full listed a w I e_ (.inr ⟨xd,(C.tail xd).1⟩);exact d_ xd (fuel+1) listed aw a w aq I.tK I.down (fun k ar=>⟨I.uS k,e_ k ar⟩) g1 g2 g3 g4
   have K3:∀i,i ∈ Region.ready .any ops listed->posOf aF i<M:=by
    intro i aG;have pb:=aG;rw [mem_ready] at pb;obtain ⟨U,o,ad,xo⟩:=pb;have gP:i<ops.size:=(aql.1 ad).1;rcases ark M ops.size with xd | xd
    . obtain ⟨EX,zD⟩:=C.tail xd;rcases ark (posOf aF i) N with a' | kR
      . omega
      . exfalso;refine zF ⟨xd,fun k ar KA=>?_⟩;obtain ⟨df,nI,_⟩:=C.ov i o ad;have ah:=zD i o df ad kR nI k ar KA;have zm:rF ops fun k=>listed.getD k false=true\/k=i:=by
         intro k ok e ar bT he ah;rcases ar with ar | rfl
         . exact .inl (I.down k ok e ar bT he ah)
         . rw [ad] at bT;cases bT;exact .inl (xo e (arV.1 he) (by rw [y0];exact ah))
        rcases CK zm ops.toList [] (fun j=>by simp) (fun k m j ar=>by simp at ar) i df k nI ah (.inr rfl) with h | h
        . exact h
        . subst h;omega
    . have:=(C.gX i gP).1;omega
   refine ⟨fun aa=>finish listed a w I aa,fun i aG=>?_⟩;refine Si bO cH eu C I aG (K3 i aG) (fun h=>by cases h) (fun a1 w' HI=>aT _ a1 w' ?_ HI) ha;have pb:=aG;rw [mem_ready] at pb;obtain ⟨U,o,ad,_⟩:=pb;have gP:i<ops.size:=(aql.1 ad).1;have hy:i<listed.size:=by rw [I.tK];exact gP
   have ve:listed.getD i false=false:=by rw [aqM,aqA hy] at U ⊢;exact U
   have:=Eg (fun k=>!listed.getD k false) (fun k=>!(listed.setIfInBounds i true).getD k false) (List.range ops.size)
    (fun k _ ar=>by
      simp only [arb] at ar ⊢;cases aI:listed.getD k false with
      | false=>rfl
      | true=>
        have:=(gT (k:=k) hy).2 (.inr aI);rw [ar] at this;cases this)
    ⟨i,arQ.2 gP,by simp [ve],by have:=(gT (k:=i) hy).2 (.inl rfl);simp [this]⟩
   omega
theorem ae.set_comm (h:ae) {b b2:aN} (dK:b≠b2) (k bG:cz):(h.set b k).set b2 bG=(h.set b2 bG).set b k:=by unfold ae.set;simp only;rw [T.put_comm _ _ _ _ _ _ (fun e=>dK e.symm)]
theorem Hi {o:Oper} {x:Operand} (h:rv o=some x):∃t y,o.op=.store t x y/\o.dst=none/\o.guard=none:=by
 unfold rv at h
 split at h
 case h_2=>cases h
 rename_i t Xx y aU
 split at h
 case h_2=>cases h
 rename_i aY
 split at h
 case h_2=>cases h
 rename_i aJ;cases h;exact ⟨t,y,aU,aY,aJ⟩
theorem aiE {h ab:ae} {b:aN} {off:Nat} {af:List V} (he:lay h b off af=some ab):∃k,ab=h.set b k/\∀H:ae,H.get b=h.get b->lay H b off af=some (H.set b k):=by
 unfold lay at he ⊢;cases aJ:h.get b<;>rw [aJ] at he<;>simp only [cz.on] at he<;>try (cases he;done)
 obtain ⟨aq,U⟩:=fx he;cases U;refine ⟨_,rfl,fun H lM=>?_⟩;rw [lM];simp only [cz.on,aq,aqo]
theorem Sd {all:Array Oper} {o:Oper} {x:Operand} {call:eF} {r:bQ} {h ab:ae} {v:V} (ay:rv o=some x) (he:(cQ P au all o).run call r h=.val v ab):
 ∃b off k,(b9 x).run (ei r (b8 all o))=.ptr b off/\ab=h.set b k/\∀H:ae,H.get b=h.get b->(cQ P au all o).run call r H=.val v (H.set b k):=by
 obtain ⟨t,y,aU,aY,aJ⟩:=Hi ay;obtain ⟨U,ad⟩:=lG he;have key:cQ P au all o=⟨jF none (fU P o) (b8 all o)⟩:=by unfold cQ;rw [show (fm au o.dst&&jk (b8 all o))=true from by rw [U,ad];rfl,aJ];rfl
 rw [key] at he ⊢;simp only [jF] at he ⊢;have xi:∀H,(fU P o).run call (ei r (b8 all o)) H=ig .bad ((uf P t).run H ((b9 x).run (ei r (b8 all o))) ((b9 y).run (ei r (b8 all o)))):=by intro H;unfold fU;rw [aU]
 rw [xi] at he;cases az:(uf P t).run h ((b9 x).run (ei r (b8 all o))) ((b9 y).run (ei r (b8 all o))) with
 | none=>rw [az] at he;cases he
 | some aC=>
   rw [az] at he;simp only [ig,a8.val.injEq] at he;obtain ⟨rfl,rfl⟩:=he;unfold uf at az;cases aB:bj P t with
   | none=>rw [aB] at az;cases az
   | some aP=>
     rw [aB] at az;simp only [qv] at az;obtain ⟨b,off,ai,aX⟩:=z' az;obtain ⟨aq,bF⟩:=fx aX;obtain ⟨k,c1,dF⟩:=aiE bF;refine ⟨b,off,k,ai,c1,fun H lM=>?_⟩;rw [xi];unfold uf;rw [aB];simp only [qv,ai,V.kg,aq,aqo,dF H lM,ig]
theorem Af {listed:Array Bool} (jI:∀i o,ops[i]? =some o->nr i o=true) (cX:listed.size=ops.size) (aa:Region.ready .any ops listed=[]):∀i,i<ops.size->listed.getD i false=true:=by
 intro i
 induction i using Nat.strongRecOn with
 | _ i aT=>
   intro aG;cases hy:listed.getD i false with
   | true=>rfl
   | false=>
     exfalso;have cL:ops[i]? =some ops[i]:=aqA aG;have jI:=jI i _ cL;have:i ∈ Region.ready .any ops listed:=by
      rw [mem_ready];refine ⟨?_,ops[i],cL,fun e he ah=>?_⟩
      . have az:i<listed.size:=by rw [cX];exact aG
        rw [aqM,aqA az] at hy ⊢;exact hy
      . have U:=aqR.1 jI e (arV.2 he);rw [y0] at ah;rw [ah] at U;simp only [Bool.not_true,ar8,aqS] at U;exact aT e.on U (by omega)
     rw [aa] at this;simp at this
theorem yl {listed:Array Bool} {i:Nat} (aoJ:listed.size=ops.size) (aG:i ∈ Region.ready .any ops listed):i<ops.size/\¬listed.getD i false=true:=by rw [mem_ready] at aG;obtain ⟨U,o,ad,_⟩:=aG;refine ⟨(aql.1 ad).1,fun h=>?_⟩;rw [u1] at h;rw [aqM,h] at U;simp at U
theorem N7 {rd:Option Nat} {al:Fr} (bO:eO P) (cH:gu P call) (eu:gB P call) (jI:∀i o,ops[i]? =some o->nr i o=true) {i:Nat} {o:Oper} (cL:ops[i]? =some o) (aY:o.dst=none) {r:bQ} {h ab:ae} {v:V}
 (he:(cQ P au ops o).run call r h=.val v ab) {Q:Exit->Act->World->Prop} {E:Env} {a:Act} {w:World} (k:gb E au r a) (s:a6 al E h w) (cR:∀aw w',E.le aw->a6 al aw ab w'->Q .normal a w')
 {listed:Array Bool} (cX:listed.size=ops.size) (e_:∀j,j<ops.size->(listed.getD j false=true↔j≠i)) (fuel:Nat) (aA:1<=fuel):wpAnyIn (aK rd) 0 P .any ops Q fuel listed a w:=by
 have gP:i<ops.size:=(aql.1 cL).1;have hy:i<listed.size:=by rw [cX];exact gP
 cases fuel with
 | zero=>omega
 | succ fuel=>
   refine ⟨fun aa=>absurd (Af jI cX aa i gP) (fun h=>((e_ i gP).1 h) rfl),fun j bU=>?_⟩;obtain ⟨sj,ra⟩:=yl cX bU;have ae3:j=i:=by
    rcases Nat.decEq j i with dK | he
    . exact absurd ((e_ j sj).2 dK) ra
    . exact he
   subst ae3;refine rW bO cH eu cL he k.size (fun t aB=>k.ax t (aqQ (aqR.1 (lG he).2 t aB))) s fun aw x w' an av aH=>?_;rw [aY];refine wpAnyIn_done ?_ (cR aw w' an aH) fuel;cases aa:Region.ready .any ops (listed.setIfInBounds j true) with
   | nil=>rfl
   | cons m ms=>
     exfalso;have hm:m ∈ Region.ready .any ops (listed.setIfInBounds j true):=by rw [aa];simp
     obtain ⟨m1,m2⟩:=yl (by simp [cX]) hm;refine m2 ((gT hy).2 ?_);by_cases TE:m=j
     . exact .inl TE
     . exact .inr ((e_ m m1).2 TE)
theorem anv {rd:Option Nat} {al:Fr} (bO:eO P) (cH:gu P call) (eu:gB P call) (jI:∀i o,ops[i]? =some o->nr i o=true) {i j:Nat} {o p:Oper} (cL:ops[i]? =some o) (pd:ops[j]? =some p) (r':i≠j) (aY:o.dst=none) (nL:p.dst=none)
 {r:bQ} {h U jZ ad:ae} {v ej u eI:V} (he:(cQ P au ops o).run call r h=.val v U) (ai:(cQ P au ops p).run call r U=.val u ad) (hM:(cQ P au ops p).run call r h=.val eI jZ) (fq:(cQ P au ops o).run call r jZ=.val ej ad)
 {Q:Exit->Act->World->Prop} {E:Env} {a:Act} {w:World} (k:gb E au r a) (s:a6 al E h w) (cR:∀aw w',E.le aw->a6 al aw ad w'->Q .normal a w')
 {listed:Array Bool} (cX:listed.size=ops.size) (e_:∀m,m<ops.size->(listed.getD m false=true↔(m≠i/\m≠j))) (fuel:Nat) (aA:2<=fuel):wpAnyIn (aK rd) 0 P .any ops Q fuel listed a w:=by
 have gP:i<ops.size:=(aql.1 cL).1;have Kx:j<ops.size:=(aql.1 pd).1;have lT:∀{q:Oper} {H jC:ae} {z:V},(cQ P au ops q).run call r H=.val z jC->∀t ∈ b8 ops q,Rel E (T.get .bad (aE t) r) (a.tmps.getD t undef):=
  fun he t aB=>k.ax t (aqQ (aqR.1 (lG he).2 t aB))
 cases fuel with
 | zero=>omega
 | succ fuel=>
   refine ⟨fun aa=>absurd (Af jI cX aa i gP) (fun h=>((e_ i gP).1 h).1 rfl),fun m hm=>?_⟩;obtain ⟨m1,m2⟩:=yl cX hm;have jc:m=i\/m=j:=by
    rcases Nat.decEq m i with dK | he
    . rcases Nat.decEq m j with afm | e3
      . exact absurd ((e_ m m1).2 ⟨dK,afm⟩) m2
      . exact .inr e3
    . exact .inl he
   rcases jc with rfl | rfl
   . refine rW bO cH eu cL he k.size (lT he) s fun aw x w' an av aH=>?_;rw [aY];have hy:m<listed.size:=by rw [cX];exact gP
     refine N7 bO cH eu jI pd nL ai (k.mono an) aH (fun b1 bn cc cy=>cR b1 bn (an.trans cc) cy) (by simp [cX]) (fun z bK=>?_) fuel (by omega);rw [gT hy,e_ z bK];constructor
     . rintro (rfl | h)
       . exact r'
       . exact h.2
     . intro h;by_cases Cp:z=m
       . exact .inl Cp
       . exact .inr ⟨Cp,h⟩
   . refine rW bO cH eu pd hM k.size (lT hM) s fun aw x w' an av aH=>?_;rw [nL];have hy:m<listed.size:=by rw [cX];exact Kx
     refine N7 bO cH eu jI cL aY fq (k.mono an) aH (fun b1 bn cc cy=>cR b1 bn (an.trans cc) cy) (by simp [cX]) (fun z bK=>?_) fuel (by omega);rw [gT hy,e_ z bK];constructor
     . rintro (rfl | h)
       . exact fun e=>r' e.symm
       . exact h.1
     . intro h;by_cases Cp:z=m
       . exact .inl Cp
       . exact .inr ⟨h,Cp⟩
theorem Xr {rd:Option Nat} {id:Nat} {a:Act} {w:World} {Q:Exit->Act->World->Prop} (hm:P.follows .mixedOrders=true)
 (h:wpAnyIn (aK rd) 0 P .any ops Q ops.size (Array.replicate ops.size false) a {w with drawn:=w.drawn+1}):(Code.region id ops true).wpIn (aK rd) 0 P Q a w:=by
 refine wpIn_region_draw fun t=>?_;rw [hm];exact wpAnyIn_sound _ _ _ _ _ h
theorem Od {r bu:bQ}:∀{rs:List Nat},(∀t ∈ rs,T.get .bad (aE t) bu=T.get .bad (aE t) r)->ei bu rs=ei r rs
 | [],_=>rfl
 | t::dp,h=>by simp only [ei];rw [h t (by simp),Od (rs:=dp) fun u hu=>h u (by simp [hu])]
theorem ack {all:Array Oper} {o:Oper} {call:eF} {r bu:bQ} (h:∀t ∈ b8 all o,T.get .bad (aE t) bu=T.get .bad (aE t) r) (H:ae):(cQ P au all o).run call bu H=(cQ P au all o).run call r H:=by
 unfold cQ;cases aq:(fm au o.dst&&jk (b8 all o)) with
 | false=>rfl
 | true=>
   simp only [aqo];cases aJ:o.guard with
   | none=>simp only [jF,Od h]
   | some rb=>
     obtain ⟨j,want⟩:=rb;simp only;cases all[j]? with
     | none=>rfl
     | some g=>
       simp only;cases g.dst with
       | none=>rfl
       | some d=>
         simp only;cases (Nat.blt d au&&Nat.ble d top) with
         | false=>rfl
         | true=>simp only [aqo,jF,Od h]
theorem anu {rd:Option Nat} {al:Fr} (bO:eO P) (cH:gu P call) (eu:gB P call) (jI:∀i o,ops[i]? =some o->nr i o=true) {l i j:Nat} {b o p:Oper} (tr:ops[l]? =some b) (cL:ops[i]? =some o) (pd:ops[j]? =some p)
 (hy:l≠i) (Tz:l≠j) (r':i≠j) (aY:o.dst=none) (nL:p.dst=none) {r ca:bQ} {h U jZ ad:ae} {z v ej u eI:V}
 (ah:∀H,(cQ P au ops b).run call r H=.val z H) (xC:ca=(gl b.dst).run r z) (zB:∀t ∈ b8 ops p,T.get .bad (aE t) ca=T.get .bad (aE t) r)
 (he:(cQ P au ops o).run call ca h=.val v U) (ai:(cQ P au ops p).run call ca U=.val u ad) (hM:(cQ P au ops p).run call ca h=.val eI jZ) (fq:(cQ P au ops o).run call ca jZ=.val ej ad)
 {Q:Exit->Act->World->Prop} {E:Env} {a:Act} {w:World} (k:gb E au r a) (s:a6 al E h w) (cR:∀aw a1 w',E.le aw->gb aw au ca a1->a6 al aw ad w'->Q .normal a1 w')
 {listed:Array Bool} (cX:listed.size=ops.size) (BL:rF ops fun k=>listed.getD k false=true) (afY:∀df,(eQ [] ops.toList)[i]? =some df->gD df l=true) (nI:∃df,(eQ [] ops.toList)[i]? =some df)
 (e_:∀m,m<ops.size->(listed.getD m false=true↔(m≠l/\m≠i/\m≠j))) (fuel:Nat) (aA:3<=fuel):wpAnyIn (aK rd) 0 P .any ops Q fuel listed a w:=by
 have Fb:l<ops.size:=(aql.1 tr).1;have gP:i<ops.size:=(aql.1 cL).1;have Kx:j<ops.size:=(aql.1 pd).1;have lT:∀{E:Env} {a:Act} {q:Oper} {R:bQ} {H jC:ae} {z:V},gb E au R a->(cQ P au ops q).run call R H=.val z jC->∀t ∈ b8 ops q,Rel E (T.get .bad (aE t) R) (a.tmps.getD t undef):=
  fun k he t aB=>k.ax t (aqQ (aqR.1 (lG he).2 t aB))
 have Vg:∀(L:Array Bool),(rF ops fun k=>L.getD k false=true)->¬L.getD l false=true->i ∈ Region.ready .any ops L->False:=by
  intro L aec vd sb;rw [mem_ready] at sb;obtain ⟨_,cm,hz,xo⟩:=sb;rw [cL] at hz;cases hz;obtain ⟨df,nI⟩:=nI;have zm:rF ops fun k=>L.getD k false=true\/k=i:=by
   intro k ok e ar bT he ah;rcases ar with ar | rfl
   . exact .inl (aec k ok e ar bT he ah)
   . rw [cL] at bT;cases bT;exact .inl (xo e (arV.1 he) (by rw [y0];exact ah))
  rcases CK zm ops.toList [] (fun j=>by simp) (fun k m j ar=>by simp at ar) i df l nI (afY df nI) (.inr rfl) with h | h
  . exact vd h
  . exact hy h
 have acp:∀m,m ∈ Region.ready .any ops listed->rF ops fun k=>(listed.setIfInBounds m true).getD k false=true:=by
  intro m hm k ok e ar bT he ah;have lh:=hm;rw [mem_ready] at lh;obtain ⟨_,apN,TK,xo⟩:=lh;have afi:m<listed.size:=by rw [cX];exact (aql.1 TK).1
  rw [gT afi] at ar ⊢;rcases ar with rfl | ar
  . rw [TK] at bT;cases bT;exact .inr (xo e (arV.1 he) (by rw [y0];exact ah))
  . exact .inr (BL k ok e ar bT he ah)
 cases fuel with
 | zero=>omega
 | succ fuel=>
   refine ⟨fun aa=>absurd (Af jI cX aa i gP) (fun h=>((e_ i gP).1 h).2.1 rfl),fun m hm=>?_⟩;obtain ⟨m1,m2⟩:=yl cX hm;have jc:m=l\/m=j:=by
    rcases Nat.decEq m l with eg | aM
    . rcases Nat.decEq m j with lZ | bh
      . rcases Nat.decEq m i with n3 | cu
        . exact absurd ((e_ m m1).2 ⟨eg,n3,lZ⟩) m2
        . subst cu;exact (Vg listed BL (fun h=>((e_ l Fb).1 h).1 rfl) hm).elim
      . exact .inr bh
    . exact .inl aM
   rcases jc with rfl | rfl
   . -- p first
     have nf:m<listed.size:=by rw [cX];exact Fb
     refine rW bO cH eu tr (ah h) k.size (lT k (ah h)) s fun aw x w' an av aH=>?_;have c1:gb aw au ca (a.put b.dst x):=by rw [xC];exact (k.mono an).put (lG (ah h)).1 av
     refine anv bO cH eu jI cL pd r' aY nL he ai hM fq c1 aH (fun b1 bn cc cy=>cR b1 _ bn (an.trans cc) (c1.mono cc) cy) (by simp [cX]) (fun y bg=>?_) fuel (by omega);rw [gT nf,e_ y bg];constructor
     . rintro (rfl | h)
       . exact ⟨hy,Tz⟩
       . exact h.2
     . intro h;by_cases Cm:y=m
       . exact .inl Cm
       . exact .inr ⟨Cm,h⟩
   . -- q first
     have nf:m<listed.size:=by rw [cX];exact Kx
     have xA:(cQ P au ops p).run call r h=.val eI jZ:=by rw [<-ack zB];exact hM
     have aed:=acp m hm;refine rW bO cH eu pd xA k.size (lT k xA) s fun aw x w' an av aH=>?_;rw [nL];have xF:(listed.setIfInBounds m true).size=ops.size:=by simp [cX]
     cases fuel with
     | zero=>omega
     | succ fuel=>
       refine ⟨fun aa=>absurd (Af jI xF aa i gP) (fun h=>?_),fun y bg=>?_⟩
       . rcases (gT nf).1 h with e | h
         . exact r' e
         . exact ((e_ i gP).1 h).2.1 rfl
       obtain ⟨e8,hR⟩:=yl xF bg;have af4:y=l:=by
        rcases Nat.decEq y l with eg | aM
        . rcases Nat.decEq y i with n3 | cu
          . exfalso;refine hR ((gT nf).2 ?_);by_cases Cm:y=m
            . exact .inl Cm
            . exact .inr ((e_ y e8).2 ⟨eg,n3,Cm⟩)
          . subst cu;refine (Vg _ aed (fun h=>?_) bg).elim;rcases (gT nf).1 h with e | h
            . exact Tz e
            . exact ((e_ l Fb).1 h).1 rfl
        . exact aM
       subst af4;have bG:=k.mono an;refine rW bO cH eu tr (ah jZ) bG.size (lT bG (ah jZ)) aH fun b1 j7 bn t1 t2 t3=>?_;have c1:gb b1 au ca (a.put b.dst j7):=by rw [xC];exact (bG.mono t1).put (lG (ah h)).1 t2
       have KK:y < (listed.setIfInBounds m true).size:=by rw [xF];exact Fb
       refine N7 bO cH eu jI cL aY fq c1 t3 (fun AK gM cc cy=>cR AK _ gM (an.trans (t1.trans cc)) (c1.mono cc) cy) (by simp [cX]) (fun g aJ=>?_) fuel (by omega);rw [gT KK,gT nf,e_ g aJ];constructor
       . rintro (rfl | rfl | h)
         . exact hy
         . exact fun e=>r' e.symm
         . exact h.2.1
       . intro h;by_cases aM:g=y
         . exact .inl aM
         . by_cases bh:g=m
           . exact .inr (.inl bh)
           . exact .inr (.inr ⟨aM,h,bh⟩)
theorem Jr {rd:Option Nat} {al:Fr} {E:Env} {h:ae} {w:World} {id:Nat} (dt:P.follows .mixedOrders=true) (bO:eO P) (cH:gu P call) (eu:gB P call) {r:bQ} {a:Act}
 {Q:Exit->Act->World->Prop} (k:gb E au r a) (s:a6 al E h w) {es:List fj} {c4:bQ} {ba:ae} {order aF e7:List Nat} {N M:Nat} (C:Cert P au ops (fun _=>call) es r h c4 ba e7 order aF N M false)
 (cR:N=ops.size->∀aw a1 w',E.le aw->gb aw au c4 a1->a6 al aw ba w'->Q .normal a1 w')
 (ha:∀aw a1 w' x v ab,E.le aw->N<ops.size->ops.size<=M->(∃i0 bp,ops[i0]? =some bp/\posOf aF i0=N/\(cQ P au ops bp).run call c4 ba=.cB v ab)->gb aw au (nC r ops.toList) a1->Rel aw v x->a6 al aw ab w'->Q (.panic (l3 x)) a1 w')
 (d_:M<ops.size->∀(fuel:Nat) (listed:Array Bool) aw a1 w',(List.range ops.size).countP (fun i=>!listed.getD i false)<=fuel->listed.size=ops.size->rF ops (fun k=>listed.getD k false=true)->(∀k,k<ops.size->(listed.getD k false=true↔posOf aF k<N))->
   E.le aw->gb aw au c4 a1->a6 al aw ba w'->wpAnyIn (aK rd) 0 P .any ops Q fuel listed a1 w'):
 (Code.region id ops true).wpIn (aK rd) 0 P Q a w:=by
 have eC:∀k,¬(Array.replicate ops.size false).getD k false=true:=by
  intro k;rw [u1,Array.getElem?_replicate]
  split<;>simp
 have lf:Holds al al es ba aF (k5 ops es ba aF (Array.replicate ops.size false) 0):=
  ⟨rfl,fun _ _=>rfl,fun k ar=>(by obtain ⟨_,_,_,_,aV⟩:=ar;omega),fun k bG ar=>(by obtain ⟨_,_,_,_,aV⟩:=ar;omega)⟩
 obtain ⟨iL,ew,g1,g2,g3,g4,g5,g6⟩:=C.advance N 0 (by omega) (fun k o _ _ _=>eC k) al lf (E:=E) (w:={w with drawn:=w.drawn}) (by rw [C.aV];exact s.same rfl rfl rfl rfl);have nc:∀(aw:Env) (a1:Act),E.le aw->a1.defers=a.defers->∀(bu:bQ),T.get .bad fF bu=T.get .bad fF r->lD aw (T.get .bad fF bu) a1.defers:=fun aw a1 he aY bu tx=>by rw [tx,aY];exact k.defers.mono he
 have E6:T.get .bad fF c4=T.get .bad fF r:=by have:=C.Jt N (aqh _);have KQ:es[N]? =none:=aqL (by rw [C.len];exact aqh _);simpa [eN,KQ] using this
 refine Xr dt (Sg bO (fun _=>cH) (fun _=>eu) C (jo:=E) (D:=a.defers)
  (fun aL aw a1 w' an av aH bP=>cR aL aw a1 w' an ⟨av,nc aw a1 an aH c4 E6⟩ bP)
  (fun aw a1 w' x v ab an av V6 aH bP cE dG fX=>ha aw a1 w' x v ab an av V6 aH ⟨bP,nc aw a1 an cE _ Ez⟩ dG fX)
  (fun g0 fuel listed aw a1 w' g1 g2 g3 g4 an av aH bP=>d_ g0 fuel listed aw a1 w' g1 g2 g3 g4 an ⟨av,nc aw a1 an aH c4 E6⟩ bP) ops.size _ a _ ?_ ?_)
 . exact aqn ar6 (by simp)
 . refine ⟨by simp,k.size,rfl,fun bG ar=>absurd ar (eC bG),fun bG o e ar=>absurd ar (eC bG),E,iL,ew,Env.le.refl E,g1,g3,fun bG o U ad=>⟨fun h=>absurd h (eC bG),fun h=>by have:=g4 bG o U ad (aqZ _);omega⟩,
    fun bG o _ _ h=>absurd h (eC bG),g5,?_,fun t aB=>.inr ⟨fun bG o ar=>absurd ar (eC bG),k.ax t aB⟩⟩
   exact g6.same rfl rfl rfl rfl
theorem C6 {n:Nat} {order aF:List Nat} (h3:lx n order aF=true):order.length=n/\(∀k,k<n->posOf aF k<n/\order[posOf aF k]? =some k)/\∀p,p<n->∃i,i<n/\posOf aF i=p:=by
 unfold lx at h3;simp only [aqi,aqT] at h3;obtain ⟨lj,pe,KU,KV⟩:=h3;refine ⟨lj,fun k ar=>?_,fun p ai=>?_⟩
 . have aJ:aF[k]? =some (posOf aF k):=by
    unfold posOf;rw [aqm (by omega)];rfl
   have:=Ab KU aJ;rw [aqW] at this;exact ⟨by have:=(aqD.1 this).1;omega,this⟩
 . have aJ:order[p]? =some (order[p]'(by omega)):=aqm (by omega);have:=Ab KV aJ;rw [aqW] at this;refine ⟨order[p]'(by omega),by have:=(aqD.1 this).1;omega,?_⟩;unfold posOf;rw [this];rfl
theorem WW {order aF:List Nat} (aA:uj P ops order aF=true):3<=ops.size/\∀i o,ops[i]? =some o->∃df,(eQ [] ops.toList)[i]? =some df/\nr i o=true/\
 (posOf aF i<ops.size-3->∀k ok,ops[k]? =some ok->posOf aF k<ops.size-3->∃mk,(eQ [] ops.toList)[k]? =some mk/\pw i df (b8 ops o) o.dst k mk ok (Nat.blt (posOf aF k) (posOf aF i))=true/\(fr P o.op=true->eP P ok=true->posOf aF k<posOf aF i->gD df k=true))/\
 (¬posOf aF i<ops.size-3->Hl P ops order aF (ops.size-3) i df o=true):=by
 unfold uj at aA;simp only [aqi,aqE] at aA;refine ⟨aA.1,fun i o aG=>?_⟩;obtain ⟨df,U,ad⟩:=pz aA.2 i o (by simpa using aG);simp only [aqW,aqi] at ad;refine ⟨df,U,ad.1,fun a' k ok ar q2=>?_,fun kR=>?_⟩
 . have aC:=ad.2;rw [show Nat.blt (posOf aF i) (ops.size-3)=true from by rw [aqS];exact a'] at aC;simp only [aqo] at aC;obtain ⟨mk,c1,dF⟩:=pz aC k ok (by simpa using ar);simp only [aqW] at dF;rw [show Nat.blt (posOf aF k) (ops.size-3)=true from by rw [aqS];exact q2] at dF;simp only [aqo,aqi] at dF;refine ⟨mk,c1,dF.1,fun aM bh a'=>?_⟩;have iv:=dF.2;rw [aM,bh,arP,show Nat.blt (posOf aF k) (posOf aF i)=true from by rw [aqS];exact a'] at iv;exact iv
 . have aC:=ad.2;rw [show Nat.blt (posOf aF i) (ops.size-3)=false from by rw [<-Bool.not_eq_true,aqS];exact kR] at aC;exact aC
theorem WX {order aF:List Nat} {N i df p:Nat} {o GJ:Oper} (ai:order[N]? =some p) (nh:ops[p]? =some GJ) (h:Hl P ops order aF N i df o=true):
 (∀k,k<ops.size->posOf aF k<N->gD df k=true)/\(posOf aF i=N->fr P o.op=false/\looks o.op=false)/\(posOf aF i≠N->∃x,rv o=some x)/\
 (posOf aF i=N+1->gD df p=true)/\(posOf aF i=N+2->∀t ∈ b8 ops o,GJ.dst≠some t):=by
 unfold Hl at h;rw [ai] at h;simp only [aqi] at h;obtain ⟨⟨U,ad⟩,aC,aX⟩:=h;refine ⟨fun k ar KA=>?_,fun e=>?_,fun e=>?_,fun e=>?_,fun e t aB=>?_⟩
 . obtain ⟨mk,c1,dF⟩:=pz U k ops[k] (by simp);simp only [aqW] at dF;rw [show Nat.blt (posOf aF k) N=true from by rw [aqS];exact KA] at dF;exact dF
 . rw [iE,aqw e] at ad;simpa using ad
 . rw [iE,aqr e] at ad;exact Option.isSome_iff_exists.1 ad
 . rw [iE,aqw e] at aC;exact aC
 . rw [iE,aqw e,nh] at aX;simp only at aX;intro aY;rw [aY] at aX;simp only [arb] at aX;rw [show (b8 ops o).contains t=true from by simpa using aB] at aX;cases aX
theorem Kh {es:List fj} {ba:ae} {N p:Nat} (ai:p<=N):cw (es.take N) (cw es ba N) p=cw es ba p:=by
 by_cases h:p<N
 . cases he:es[p]? with
   | some e=>simp [cw,h,he]
   | none=>
     have aL:es[N]? =none:=aqL (by have:=List.getElem?_eq_none_iff.1 he;omega);simp [cw,h,he,aL]
 . have:p=N:=by omega
   subst this;simp [cw,List.getElem?_take]
theorem We {es:List fj} {c4:bQ} {N p:Nat} (ai:p<=N):eN (es.take N) (eN es c4 N) p=eN es c4 p:=by
 by_cases h:p<N
 . cases he:es[p]? with
   | some e=>simp [eN,h,he]
   | none=>
     have aL:es[N]? =none:=aqL (by have:=List.getElem?_eq_none_iff.1 he;omega);simp [eN,h,he,aL]
 . have:p=N:=by omega
   subst this;simp [eN,List.getElem?_take]
theorem Y4 {order:List Nat} {es:List fj} {N i j:Nat} {o p:Oper} {e f:fj} {x y:Operand} (a_:wI ops order es N=true) (aG:order[N]? =some i) (bU:order[N+1]? =some j) (cL:ops[i]? =some o) (pd:ops[j]? =some p)
 (he:es[N]? =some e) (aA:es[N+1]? =some f) (ay:rv o=some x) (bg:rv p=some y) {b c:aN} {off nq:Nat} (ah:(b9 x).run (ei e.r (b8 ops o))=.ptr b off) (aq:(b9 y).run (ei f.r (b8 ops p))=.ptr c nq):b≠c:=by
 unfold wI Au at a_;simp only [aG,bU,cL,pd,he,aA,ay,bg,ah,aq] at a_;intro h;subst h;rw [aN.Bz] at a_;cases a_
theorem WY {rd:Option Nat} {al:Fr} {E:Env} {h:ae} {w:World} {id:Nat} (dt:P.follows .mixedOrders=true) (bO:eO P) (cH:gu P call) (eu:gB P call) {r:bQ} {a:Act} {order aF:List Nat} (h3:lx ops.size order aF=true) (gi:uj P ops order aF=true)
 {Q:Exit->Act->World->Prop} {es:List fj} {c4:bQ} {ba:ae} (hlen:es.length=ops.size) (av:cw es ba 0=h) (aH:eN es c4 0=r)
 (bP:∀j o,(fA ops order)[j]? =some o->∃e,es[j]? =some e/\(cQ P au ops o).run call e.r e.h=.val e.v (cw es ba (j+1))/\eN es c4 (j+1)=(gl o.dst).run e.r e.v)
 (xf:wI ops order es (ops.size-3+1)=true)
 (nE:∀j o,ops[j]? =some o->looks o.op=true->fr P o.op=false->∀e,(es.take (ops.size-3))[posOf aF j]? =some e->∀s ∈ gR P aF 0 ops.toList,
   ri P (eQ [] ops.toList) ops.toList aF j (((eQ [] ops.toList)[j]?).getD 0) s=true->∃ab,(cQ P au ops o).run call e.r (cw (es.take (ops.size-3)) (cw es ba (ops.size-3)) s)=.val e.v ab)
 (ai:∀aw a1 w',E.le aw->gb aw au c4 a1->a6 al aw ba w'->Q .normal a1 w') (k:gb E au r a) (s:a6 al E h w):(Code.region id ops true).wpIn (aK rd) 0 P Q a w:=by
 obtain ⟨lj,gX,jM⟩:=C6 h3;obtain ⟨ad,gi⟩:=WW gi;obtain ⟨N,aem⟩:∃N,N=ops.size-3:=⟨_,rfl⟩;rw [<-aem] at gi xf nE;have inj:∀i j,i<ops.size->j<ops.size->posOf aF i=posOf aF j->i=j:=by intro i j aG bU he;have a:=(gX i aG).2;have b:=(gX j bU).2;rw [he,b] at a;cases a;rfl
 obtain ⟨mE,u3,zn⟩:=jM N (by omega);obtain ⟨p9,zk,zl⟩:=jM (N+1) (by omega);obtain ⟨sh,xa,BJ⟩:=jM (N+2) (by omega);have BV:ops[mE]? =some ops[mE]:=aqA u3;have E9:ops[p9]? =some ops[p9]:=aqA zk;have E':ops[sh]? =some ops[sh]:=aqA xa;have KZ:=(gX mE u3).2;have KX:=(gX p9 zk).2;have KY:=(gX sh xa).2;rw [zn] at KZ;rw [zl] at KX;rw [BJ] at KY;have zD:∀i o,ops[i]? =some o->¬posOf aF i<N->∃df,(eQ [] ops.toList)[i]? =some df/\(∀k,k<ops.size->posOf aF k<N->gD df k=true)/\(posOf aF i=N->fr P o.op=false/\looks o.op=false)/\(posOf aF i≠N->∃x,rv o=some x)/\
  (posOf aF i=N+1->gD df mE=true)/\(posOf aF i=N+2->∀t ∈ b8 ops o,ops[mE].dst≠some t):=by
  intro i o aG kR;obtain ⟨df,cp,_,_,z4⟩:=gi i o aG;exact ⟨df,cp,WX KZ BV (z4 kR)⟩
 obtain ⟨apA,_,_,ans,_⟩:=zD mE _ BV (by omega);obtain ⟨F',TC,_,_,anq,ag,_⟩:=zD p9 _ E9 (by omega);obtain ⟨apz,apm,_,_,anr,_,Nv⟩:=zD sh _ E' (by omega);obtain ⟨Sm,ajf⟩:=ans zn;obtain ⟨aqa,Lm⟩:=anq (by omega);obtain ⟨aqb,Ln⟩:=anr (by omega);have ag:=ag zl;have Nv:=Nv BJ;obtain ⟨Jw,cV,gz,xP⟩:=bP _ _ (lu KZ BV);obtain ⟨wZ,b7,a2,a3⟩:=bP _ _ (lu KX E9);obtain ⟨Sl,ct,c6,hv⟩:=bP _ _ (lu KY E');obtain ⟨ap0,aqe,akf,RZ,aoZ⟩:=Hi Lm;obtain ⟨ap1,aqf,apI,R0,ao0⟩:=Hi Ln;have eC:es[N+2+1]? =none:=aqL (by omega);have ae_:cw es ba (N+2+1)=ba:=by simp [cw,eC]
 have amq:eN es c4 (N+2+1)=c4:=by simp [eN,eC]
 have ael:cw es ba N=Jw.h:=by simp [cw,cV]
 have al9:eN es c4 N=Jw.r:=by simp [eN,cV]
 have aej:cw es ba (N+1)=wZ.h:=by simp [cw,b7]
 have al7:eN es c4 (N+1)=wZ.r:=by simp [eN,b7]
 have aek:cw es ba (N+1+1)=Sl.h:=by simp [cw,ct]
 have al8:eN es c4 (N+1+1)=Sl.r:=by simp [eN,ct]
 rw [al7] at xP;rw [aej] at gz;rw [RZ,al8] at a3;rw [R0,amq] at hv;simp only [gl] at a3 hv;rw [aek] at a2;rw [ae_] at c6;obtain ⟨aeh,J2⟩:=wY Sm gz;have J2:=J2 ajf;obtain ⟨PY,apJ,agD,ale,Wt,anU⟩:=Sd Lm a2;obtain ⟨IG,apK,Uk,alf,amG,anV⟩:=Sd Ln c6;have dK:PY≠IG:=Y4 xf KX KY E9 E' b7 ct Lm Ln ale alf;have J1:=anV wZ.h (by rw [Wt,ae.fG,aqr dK]);have BI:=anU (wZ.h.set IG Uk) (by rw [ae.fG,aqr (fun e=>dK e.symm)]);have aeE:(wZ.h.set IG Uk).set PY agD=ba:=by rw [ae.set_comm _ (fun e=>dK e.symm),<-Wt,<-amG]
 rw [aeE] at BI;rw [a3] at J1 c6;have nO:c4=wZ.r:=hv.trans a3;have afj:∀m,m<ops.size->(posOf aF m<N↔(m≠mE/\m≠p9/\m≠sh)):=by
  intro m hm;have apr:=(gX m hm).1;constructor
  . intro h;exact ⟨fun e=>by subst e;omega,fun e=>by subst e;omega,fun e=>by subst e;omega⟩
  . rintro ⟨du,eg,lZ⟩;have mm:posOf aF m≠N:=fun e=>du (inj m mE hm u3 (by rw [e,zn]));have bS:posOf aF m≠N+1:=fun e=>eg (inj m p9 hm zk (by rw [e,zl]));have cJ:posOf aF m≠N+2:=fun e=>lZ (inj m sh hm xa (by rw [e,BJ]));omega
 have aeC:eP P ops[p9]=true:=by unfold eP hO;rw [akf];rfl
 have zB:∀t ∈ b8 ops ops[sh],T.get .bad (aE t) wZ.r=T.get .bad (aE t) Jw.r:=by intro t aB;have zG:t<=top:=aqQ (aqR.1 (lG c6).2 t aB);rw [xP,S1 (lG gz).1 zG,aqr (Nv t aB)]
 have jd:∀i o,ops[i]? =some o->posOf aF i<N->∃e,(es.take N)[posOf aF i]? =some e/\(cQ P au ops o).run call e.r e.h=.val e.v (cw (es.take N) (cw es ba N) (posOf aF i+1))/\eN (es.take N) (eN es c4 N) (posOf aF i+1)=(gl o.dst).run e.r e.v:=by
  intro i o aU aG;obtain ⟨e,cp,z2,z3⟩:=bP _ o (lu (gX i (aql.1 aU).1).2 aU);refine ⟨e,by simp [aG,cp],?_,?_⟩
  . rw [Kh (by omega)];exact z2
  . rw [We (by omega)];exact z3
 have C:Cert P au ops (fun _=>call) (es.take N) r h (eN es c4 N) (cw es ba N) (N::gR P aF 0 ops.toList) order aF N N false:=
  ⟨by simp [hlen];omega,by omega,aqh _,gX,jM,by rw [Kh (aqZ _)];exact av,by rw [We (aqZ _)];exact aH,jd,
    fun i o aU=>by
     obtain ⟨df,cp,z2,z3,_⟩:=gi i o aU
     exact ⟨df,cp,z2,fun aG k ok ar Kz=>by
      obtain ⟨mk,e8,hR,y3⟩:=z3 aG k ok ar Kz
      exact ⟨mk,e8,hR,fun a b c=>.inl (y3 a b c)⟩⟩,
    by simp,
    fun j o U ad=>aq2 _ (by simpa using zT (aF:=aF) (i:=0) (j:=j) (l:=ops.toList) (by simpa using U) ad),
    fun s az=>by
     rcases aqN.1 az with rfl | az
     . exact .inl (.inr ⟨rfl,rfl⟩)
     . rcases vw az with h | ⟨j,o,U,ad,aC⟩
       . exact .inl (.inl (by simpa using h))
       . exact .inr ⟨j,o,by simpa using U,ad,by simpa using aC⟩,
    fun j o U ad aC aX=>by
     obtain ⟨e,g1,_⟩:=jd j o U aX;have TZ:=nE j o U ad aC e g1;refine ⟨e,g1,fun s az hm=>?_⟩;rcases aqN.1 az with rfl | az
     . have mB:ri P (eQ [] ops.toList) ops.toList aF j (((eQ [] ops.toList)[j]?).getD 0) (s+1)=true:=by
        unfold ri at hm ⊢;refine OO (by rw [L0];simp) fun dL mk ok e8 hR=>?_;obtain ⟨mk',bY,j7⟩:=pz hm dL ok hR;rw [e8] at bY;cases bY;simp only [aqW] at j7 ⊢;have bT:ops[dL]? =some ok:=by simpa using hR
        have q2:=(aql.1 bT).1;by_cases BY:posOf aF dL=s
        . have:dL=mE:=inj dL mE q2 u3 (by rw [BY,zn]);subst this;rw [BV] at bT;cases bT;have Fc:eP P ops[dL]=false:=by unfold eP;rw [Sm];rfl
          rw [Fc];rfl
        . have:Nat.blt (posOf aF dL) (s+1)=Nat.blt (posOf aF dL) s:=by
           rw [arc,aqS,aqS];omega
          rw [this];exact j7
       have sb:s+1 ∈ gR P aF 0 ops.toList:=by rw [<-zl];simpa using zT (P:=P) (aF:=aF) (i:=0) (j:=p9) (l:=ops.toList) (by simp) aeC
       obtain ⟨ab,g3⟩:=TZ (s+1) sb mB;refine ⟨call,ab,⟨cH,eu⟩,?_⟩;have aM:cw (es.take s) (cw es ba s) (s+1)=cw es ba s:=by have:(es.take s)[s+1]? =none:=aqL (by simp;omega);simp only [cw,this]
       have bh:cw (es.take s) (cw es ba s) s=cw es ba s:=Kh (aqh _);rw [aM] at g3;rw [bh];exact g3
     . obtain ⟨ab,g3⟩:=TZ s az hm;exact ⟨call,ab,⟨cH,eu⟩,g3⟩,
    fun _=>⟨rfl,fun dL ok mk ar kR tt j bU BW=>by obtain ⟨df,cp,z2,_⟩:=zD dL ok ar (by omega);rw [tt] at cp;cases cp;exact z2 j bU BW⟩,
    fun U ad=>by omega⟩
 refine Jr dt bO cH eu k s C (fun h=>by omega) (fun _ _ _ _ _ _ _ _ h=>by omega) (fun _ fuel listed aw a1 w' g1 g2 g3 g4 g5 g6 g7=>?_);rw [al9] at g6;rw [ael] at g7;rw [aeh] at a2 J1 BI;refine anu bO cH eu (fun i o aU=>by obtain ⟨df,_,z2,_⟩:=gi i o aU;exact z2) BV E9 E' (fun e=>by rw [e] at zn;omega) (fun e=>by rw [e] at zn;omega) (fun e=>by rw [e] at zl;omega) RZ R0
  J2 xP zB a2 c6 J1 BI g6 g7 (fun b1 a2 bn cc cy eD=>ai b1 a2 bn (g5.trans cc) (by rw [nO];exact cy) eD) g2 g3 (fun df nI=>by rw [TC] at nI;cases nI;exact ag) ⟨F',TC⟩ (fun m hm=>(g4 m hm).trans (afj m hm)) fuel ?_
 have I8:∀(L:Array Bool) (x:Nat),L.size=ops.size->x<ops.size->¬L.getD x false=true->(List.range ops.size).countP (fun k=>!(L.setIfInBounds x true).getD k false) < (List.range ops.size).countP (fun k=>!L.getD k false):=by
  intro L x dU ay aL;have zL:x<L.size:=by rw [dU];exact ay
  refine Eg (fun k=>!L.getD k false) (fun k=>!(L.setIfInBounds x true).getD k false) (List.range ops.size) (fun k _ ar=>?_) ⟨x,arQ.2 ay,?_,?_⟩
  . simp only [arb] at ar ⊢;cases aI:L.getD k false with
    | false=>rfl
    | true=>
      have:=(gT (k:=k) zL).2 (.inr aI);rw [ar] at this;cases this
  . cases aI:L.getD x false with
    | false=>rfl
    | true=>exact absurd aI aL
  . have:=(gT (k:=x) zL).2 (.inl rfl);simp [this]
 have ajP:¬listed.getD mE false=true:=fun h=>by have:=(g4 mE u3).1 h;omega
 have ajO:¬listed.getD p9 false=true:=fun h=>by have:=(g4 p9 zk).1 h;omega
 have iI:¬listed.getD sh false=true:=fun h=>by have:=(g4 sh xa).1 h;omega
 have bS:=I8 listed mE g2 u3 ajP
 have cJ:=I8 (listed.setIfInBounds mE true) p9 (by simp [g2]) zk (fun h=>by
  rcases (gT (by rw [g2];exact u3)).1 h with e | h
  . rw [e] at zl;omega
  . exact ajO h)
 have c3:=I8 ((listed.setIfInBounds mE true).setIfInBounds p9 true) sh (by simp [g2]) xa (fun h=>by
  rcases (gT (by simp [g2];exact zk)).1 h with e | h
  . rw [e] at BJ;omega
  . rcases (gT (by rw [g2];exact u3)).1 h with e | h
    . rw [e] at BJ;omega
    . exact iI h)
 omega
theorem acr {rd:Option Nat} {al:Fr} {E:Env} {h:ae} {w:World} {id:Nat} (dt:P.follows .mixedOrders=true) (bO:eO P) (cH:gu P call) (eu:gB P call) {r:bQ} {a:Act} {order aF:List Nat} (h3:lx ops.size order aF=true) (gi:uj P ops order aF=true)
 {Q:Exit->Act->World->Prop} (ai:o2 al E au (Q .normal) Q (Jq ops order (gL P au ops (fA ops order)) (s8 P au ops (eQ [] ops.toList) aF (gR P aF 0 ops.toList) 0 ops.toList) call r h)) (k:gb E au r a) (s:a6 al E h w):(Code.region id ops true).wpIn (aK rd) 0 P Q a w:=by
 obtain ⟨lj,gX,jM⟩:=C6 h3;unfold Jq at ai;cases di:(gL P au ops (fA ops order)).run call r h with
 | fail=>rw [di] at ai;exact ai.elim
 | cB _ _ _ _ _=>rw [di] at ai;exact ai.elim
 | ok es c4 ba=>
   rw [di] at ai;simp only at ai;cases aI:(wI ops order es (ops.size-3+1)&&(s8 P au ops (eQ [] ops.toList) aF (gR P aF 0 ops.toList) 0 ops.toList).run call (es.take (ops.size-3)) (cw es ba (ops.size-3))) with
   | false=>rw [aI] at ai;exact ai.elim
   | true=>
     rw [aI] at ai;simp only [aqo] at ai;simp only [aqi] at aI;obtain ⟨an,av,aH,bP⟩:=v8 di
     exact WY dt bO cH eu h3 gi (by rw [an,n1,lj]) av aH bP aI.1 (fun j o U ad aC e g1 s az hm=>by
      have:=Iv aI.2 j o (by simpa using U) ad aC e (by simpa using g1)
      exact this s az (by simpa using hm)) ai k s
end
section
variable {P:Program} {au:Nat} {ops:Array Oper} {call:eF}
inductive qB {α β:Type} (R:α->β->Prop):List α->List β->Prop
 | nil:qB R [] []
 | cons {a:α} {b:β} {LV:List α} {LW:List β} (h:R a b) (t:qB R LV LW):qB R (a::LV) (b::LW)
def yk (ops:Array Oper) (t:Nat) (listed:Array Bool):Option Nat:=(Region.ready .any ops listed)[t % (Region.ready .any ops listed).length]?
theorem go_succ (fuel t:Nat) (listed:Array Bool):Region.linearise.go .any ops (fuel+1) t listed []=match yk ops t listed with
 | some i=>i::Region.linearise.go .any ops fuel (t / (Region.ready .any ops listed).length) (listed.setIfInBounds i true) []
 | none=>[]:=by
 simp only [Region.linearise.go]
 change (match (Region.ready .any ops listed)[t % (Region.ready .any ops listed).length]? with
  | some i=>Region.linearise.go .any ops fuel (t / (Region.ready .any ops listed).length) (listed.setIfInBounds i true) [i]
  | none=>[].reverse)=_
 unfold yk;cases (Region.ready .any ops listed)[t % (Region.ready .any ops listed).length]? with
 | none=>rfl
 | some i=>
   simp only;rw [linearise_go_acc,List.reverse_singleton,List.singleton_append]
theorem V_ {t:Nat} {listed:Array Bool} (h:yk ops t listed=none):Region.ready .any ops listed=[]:=by
 unfold yk at h;cases aa:Region.ready .any ops listed with
 | nil=>rfl
 | cons x xs=>
   rw [aa] at h;have a':t % (x::xs).length < (x::xs).length:=Nat.mod_lt _ (by simp);rw [aqm a'] at h;cases h
theorem Ny {t i:Nat} {listed:Array Bool} (h:yk ops t listed=some i):i ∈ Region.ready .any ops listed:=aqX h
theorem count_set {listed:Array Bool} {i:Nat} (cX:listed.size=ops.size) (aG:i<ops.size) (aL:¬listed.getD i false=true):
 (List.range ops.size).countP (fun k=>!(listed.setIfInBounds i true).getD k false) < (List.range ops.size).countP (fun k=>!listed.getD k false):=by
 have aD:i<listed.size:=by rw [cX];exact aG
 refine Eg (fun k=>!listed.getD k false) (fun k=>!(listed.setIfInBounds i true).getD k false) (List.range ops.size) (fun k _ ar=>?_) ⟨i,arQ.2 aG,?_,?_⟩
 . simp only [arb] at ar ⊢;cases aI:listed.getD k false with
   | false=>rfl
   | true=>
     have:=(gT (k:=k) aD).2 (.inr aI);rw [ar] at this;cases this
 . cases aI:listed.getD i false with
   | false=>rfl
   | true=>exact absurd aI aL
 . have:=(gT (k:=i) aD).2 (.inl rfl);simp [this]
theorem S2 (jI:∀i o,ops[i]? =some o->nr i o=true):∀(fuel t:Nat) (listed:Array Bool),listed.size=ops.size->(List.range ops.size).countP (fun i=>!listed.getD i false)<=fuel->
 (Region.linearise.go .any ops fuel t listed []).Nodup/\(∀k ∈ Region.linearise.go .any ops fuel t listed [],k<ops.size/\¬listed.getD k false=true)/\
  ∀k,k<ops.size->listed.getD k false=true\/k ∈ Region.linearise.go .any ops fuel t listed []
 | 0,t,listed,cX,aq=>by
   have e:Region.linearise.go .any ops 0 t listed []=[]:=rfl;rw [e];refine ⟨List.nodup_nil,fun k ar=>by simp at ar,fun k ar=>.inl ?_⟩;have aV:(List.range ops.size).countP (fun i=>!listed.getD i false)=0:=by omega
   rw [List.countP_eq_zero] at aV;simpa using aV k (arQ.2 ar)
 | fuel+1,t,listed,cX,aq=>by
   rw [go_succ];cases aa:yk ops t listed with
   | none=>
     simp only;exact ⟨List.nodup_nil,fun k ar=>by simp at ar,fun k ar=>.inl (Af jI cX (V_ aa) k ar)⟩
   | some i=>
     simp only;obtain ⟨i1,i2⟩:=yl cX (Ny aa);have aD:i<listed.size:=by rw [cX];exact i1
     have:=count_set cX i1 i2;obtain ⟨g1,g2,g3⟩:=S2 jI fuel (t / (Region.ready .any ops listed).length) (listed.setIfInBounds i true) (by simp [cX]) (by omega);refine ⟨ash.2 ⟨fun hm=>(g2 i hm).2 ((gT aD).2 (.inl rfl)),g1⟩,fun k ar=>?_,fun k ar=>?_⟩
     . rcases aqN.1 ar with rfl | ar
       . exact ⟨i1,i2⟩
       . exact ⟨(g2 k ar).1,fun h=>(g2 k ar).2 ((gT aD).2 (.inr h))⟩
     . rcases g3 k ar with h | h
       . rcases (gT aD).1 h with rfl | h
         . exact .inr (by simp)
         . exact .inl h
       . exact .inr (by simp [h])
theorem Hg {o:Oper} {os:List Oper} {r:bQ} {h:ae} {es:List fj} {db:bQ} {aA:ae} (he:(gL P au ops (o::os)).run call r h=.ok es db aA):
 ∃v U iS,(cQ P au ops o).run call r h=.val v U/\(gL P au ops os).run call ((gl o.dst).run r v) U=.ok iS db aA/\es=⟨r,h,v⟩::iS:=by
 simp only [gL,Dn] at he;cases U:(cQ P au ops o).run call r h with
 | fail=>rw [U] at he;cases he
 | cB _ _=>rw [U] at he;simp only at he;cases hm:j5 o.op<;>rw [hm] at he<;>cases he
 | val v ba=>
   rw [U] at he;simp only at he;cases ad:(gL P au ops os).run call ((gl o.dst).run r v) ba with
   | fail=>rw [ad] at he;cases he
   | cB _ _ _ _ _=>rw [ad] at he;cases he
   | ok iS ca aC=>
     rw [ad] at he;simp only [rE.ok.injEq] at he;obtain ⟨rfl,rfl,rfl⟩:=he;exact ⟨v,ba,iS,rfl,ad,rfl⟩
theorem Hh {o:Oper} {os:List Oper} {r:bQ} {h U:ae} {v:V} {iS:List fj} {db:bQ} {aA:ae} (aV:(cQ P au ops o).run call r h=.val v U) (ad:(gL P au ops os).run call ((gl o.dst).run r v) U=.ok iS db aA):
 (gL P au ops (o::os)).run call r h=.ok (⟨r,h,v⟩::iS) db aA:=by
 simp only [gL,Dn,aV,ad]
theorem N0:∀(cV gz:List Oper) {r:bQ} {h:ae} {es:List fj} {db:bQ} {aA:ae},(gL P au ops (cV++gz)).run call r h=.ok es db aA->
 ∃iS ca U r0,(gL P au ops cV).run call r h=.ok iS ca U/\(gL P au ops gz).run call ca U=.ok r0 db aA/\es=iS++r0
 | [],gz,r,h,es,db,aA,he=>⟨[],r,h,es,rfl,he,rfl⟩
 | o::os,gz,r,h,es,db,aA,he=>by obtain ⟨v,U,iS,an,av,rfl⟩:=Hg he;obtain ⟨JG,ca,aC,r0,g1,g2,rfl⟩:=N0 os gz av;exact ⟨⟨r,h,v⟩::JG,ca,aC,r0,Hh an g1,g2,rfl⟩
theorem N1:∀(cV gz:List Oper) {r ca db:bQ} {h U aA:ae} {iS r0:List fj},(gL P au ops cV).run call r h=.ok iS ca U->(gL P au ops gz).run call ca U=.ok r0 db aA->
 (gL P au ops (cV++gz)).run call r h=.ok (iS++r0) db aA
 | [],gz,r,ca,db,h,U,aA,iS,r0,he,ad=>by simp only [gL,rE.ok.injEq] at he;obtain ⟨rfl,rfl,rfl⟩:=he;exact ad
 | o::os,gz,r,ca,db,h,U,aA,iS,r0,he,ad=>by obtain ⟨v,aC,JG,an,av,rfl⟩:=Hg he;exact Hh an (N1 os gz av ad)
theorem CV:∀(a b:List Nat),fA ops (a++b)=fA ops a++fA ops b
 | [],b=>rfl
 | x::xs,b=>by simp [fA,CV xs b]
theorem V7:∀(l:List Oper),(∀o ∈ l,fr P o.op=false/\looks o.op=false)->∀{r db:bQ} {h aA:ae} {es:List fj},(gL P au ops l).run call r h=.ok es db aA->
 aA=h/\∀H:ae,∃jG,(gL P au ops l).run call r H=.ok jG db H
 | [],_,r,db,h,aA,es,he=>by simp only [gL,rE.ok.injEq] at he;obtain ⟨rfl,rfl,rfl⟩:=he;exact ⟨rfl,fun H=>⟨[],rfl⟩⟩
 | o::os,aI,r,db,h,aA,es,he=>by obtain ⟨v,U,iS,an,av,rfl⟩:=Hg he;obtain ⟨aM,bh⟩:=aI o (by simp);obtain ⟨d1,d2⟩:=wY aM an;subst d1;obtain ⟨g1,g2⟩:=V7 os (fun cm hz=>aI cm (by simp [hz])) av;refine ⟨g1,fun H=>?_⟩;obtain ⟨jG,g3⟩:=g2 H;exact ⟨_,Hh (d2 bh H) g3⟩
theorem Cq {o:Oper} {A:yN} (h:nk o=some A):o.op=.insert A.t A.m A.k A.x/\o.dst=none/\o.guard=none:=by
 unfold nk at h
 split at h
 case h_2=>cases h
 rename_i t m k x aU
 split at h
 case h_2=>cases h
 rename_i aY
 split at h
 case h_2=>cases h
 rename_i aJ;cases h;exact ⟨aU,aY,aJ⟩
theorem V2 {e:eK} {k v:V} {c:Nat}:∀{es:List c9},(∀m ∈ es,e.run k m.k=some false)->nt e k v c es=some (es++[⟨k,v,c⟩],true)
 | [],_=>rfl
 | m::ms,h=>by simp only [nt,h m (by simp),aqt,V2 (es:=ms) fun b4 mB=>h b4 (by simp [mB]),aqP]
theorem acm {o:Oper} {A:yN} (zt:Cv P A.t=true) (oy:nk o=some A) {r:bQ} {H1 ey:ae} {v:V} (he:(cQ P au ops o).run call r H1=.val v ey) {b:aN} (ah:(b9 A.m).run (ei r (b8 ops o))=.map b):
 ∀(H:ae) es c,H.get b=.mp es c->(∀m ∈ es,(vt P A.t).run ((b9 A.k).run (ei r (b8 ops o))) m.k=some false)->
  (cQ P au ops o).run call r H=.val .bad (H.set b (.mp (es++[⟨(b9 A.k).run (ei r (b8 ops o)),(b9 A.x).run (ei r (b8 ops o)),c⟩]) (c+1))):=by
 obtain ⟨aU,aY,aJ⟩:=Cq oy;obtain ⟨U,ad⟩:=lG he;have key:cQ P au ops o=⟨jF none (fU P o) (b8 ops o)⟩:=by unfold cQ;rw [show (fm au o.dst&&jk (b8 ops o))=true from by rw [U,ad];rfl,aJ];rfl
 rw [key] at he ⊢;simp only [jF] at he ⊢;have xi:∀H,(fU P o).run call (ei r (b8 ops o)) H=ig .bad ((qz P A.t).run H (.map b) ((b9 A.k).run (ei r (b8 ops o))) ((b9 A.x).run (ei r (b8 ops o)))):=by intro H;unfold fU;rw [aU];simp only [ah]
 rw [xi] at he;have afU:qz P A.t=⟨oT (vt P A.t)⟩:=by
  cases az:(qz P A.t).run H1 (.map b) ((b9 A.k).run (ei r (b8 ops o))) ((b9 A.x).run (ei r (b8 ops o))) with
  | none=>rw [az] at he;cases he
  | some aC=>
    unfold qz at az ⊢;unfold vt;cases aB:bj P A.t with
    | none=>rw [aB] at az;cases az
    | some aP=>
      rw [aB] at az;simp only at az ⊢;cases b_:aP.bq<;>rw [b_] at az<;>simp only at az ⊢<;>try (cases az;done)
      rename_i dV lI;cases q3:bj P dV with
      | none=>rw [q3] at az;cases az
      | some hP=>
        rw [q3] at az;simp only at az ⊢;cases aA:lY hP.bq with
        | false=>
          unfold Cv at zt;rw [aB] at zt;simp only [b_,q3,aA] at zt;cases zt
        | true=>rfl
 intro H es c lM ar;rw [xi,afU];simp only [oT,lM,cz.lp,V2 ar,ig,aqo]
theorem agp {o:Oper} {r:bQ} {b:aN} {m:c9} (h:vn ops r b o=some m):∃A,nk o=some A/\(b9 A.m).run (ei r (b8 ops o))=.map b/\m.k=(b9 A.k).run (ei r (b8 ops o))/\m.v=(b9 A.x).run (ei r (b8 ops o)):=by
 unfold vn at h;cases a_:nk o with
 | none=>rw [a_] at h;cases h
 | some A=>
   rw [a_] at h;simp only at h;cases hm:(b9 A.m).run (ei r (b8 ops o))<;>rw [hm] at h<;>simp only at h<;>try (cases h;done)
   obtain ⟨aq,U⟩:=fx h;have:=aN.na aq;subst this;cases U;exact ⟨A,rfl,hm,rfl,rfl⟩
def mg (ops:Array Oper) (r:bQ) (b:aN) (i:Nat) (m:c9):Prop:=∃o,ops[i]? =some o/\vn ops r b o=some m
theorem mg.Jl {r:bQ} {b:aN} {i:Nat} {m b4:c9} (h:mg ops r b i m) (ab:mg ops r b i b4):m=b4:=by obtain ⟨o,U,ad⟩:=h;obtain ⟨cm,aC,aX⟩:=ab;rw [U] at aC;cases aC;rw [ad] at aX;cases aX;rfl
theorem FC {r:bQ} {b:aN}:∀{is:List Nat} {ms:List c9},xN ops r b is=some ms->qB (mg ops r b) is ms
 | [],ms,h=>by simp only [xN,aqj] at h;subst h;exact .nil
 | i::is,ms,h=>by
   simp only [xN] at h;cases aU:ops[i]? with
   | none=>rw [aU] at h;cases h
   | some o=>
     rw [aU] at h;simp only at h;cases hm:vn ops r b o with
     | none=>rw [hm] at h;cases h
     | some m=>
       rw [hm] at h;simp only at h;cases az:xN ops r b is with
       | none=>rw [az] at h;cases h
       | some apE=>
         rw [az] at h;simp only [aqj] at h;subst h;exact .cons ⟨o,aU,hm⟩ (FC az)
theorem Ug {x:Option Bool} (h:isFalse x=true):x=some false:=by
 cases x with
 | none=>cases h
 | some b=>cases b<;>simp_all [isFalse]
theorem Ij {e:eK} {m:c9}:∀{ms:List c9},DZ e m ms=true->∀b4 ∈ ms,e.run m.k b4.k=some false/\e.run b4.k m.k=some false
 | [],_,b4,h=>by simp at h
 | x::xs,h,b4,hm=>by
   simp only [DZ,aqi] at h;rcases aqN.1 hm with rfl | hm
   . exact ⟨Ug h.1,Ug h.2.1⟩
   . exact Ij h.2.2 b4 hm
theorem PI {r:bQ} {b:aN} {e:eK}:∀{is:List Nat} {ms:List c9},qB (mg ops r b) is ms->is.Nodup->A' e ms=true->∀i j m b4,i ∈ is->j ∈ is->i≠j->mg ops r b i m->mg ops r b j b4->e.run m.k b4.k=some false
 | _,_,.nil,_,_,i,_,_,_,aG,_,_,_,_=>by simp at aG
 | _,_,.cons (a:=x) (b:=e4) (LV:=xs) (LW:=ajN) aV aB,aL,a_,i,j,m,b4,aG,bU,r',hm,mB=>by
   simp only [A',aqi] at a_;rw [ash] at aL;have T8:∀k n,k ∈ xs->mg ops r b k n->n ∈ ajN:=by
    intro k n ar ae8;have gen:∀{is:List Nat} {ms:List c9},qB (mg ops r b) is ms->k ∈ is->n ∈ ms:=by
     intro is ms aA
     induction aA with
     | nil=>intro ar;simp at ar
     | cons U _ aT=>
       intro ar;rcases aqN.1 ar with rfl | ar
       . rw [ae8.Jl U];simp
       . exact aq2 _ (aT ar)
    exact gen aB ar
   rcases aqN.1 aG with Tw | aG
   . rcases aqN.1 bU with Ky | bU
     . exact absurd (Tw.trans Ky.symm) r'
     . rw [Tw] at hm;rw [hm.Jl aV];exact (Ij a_.1 b4 (T8 j b4 bU mB)).1
   . rcases aqN.1 bU with Ky | bU
     . rw [Ky] at mB;rw [mB.Jl aV];exact (Ij a_.1 m (T8 i m aG hm)).2
     . exact PI aB aL.2 a_.2 i j m b4 aG bU r' hm mB
theorem Lv {km:bQ} {b:aN} {e:eK} {I:List Nat} (tk:∀i ∈ I,∃o A m,ops[i]? =some o/\nk o=some A/\(Cv P A.t=true/\vt P A.t=e)/\vn ops km b o=some m/\∃v H1 ey,(cQ P au ops o).run call km H1=.val v ey)
 (pY:∀i j m b4,i ∈ I->j ∈ I->i≠j->mg ops km b i m->mg ops km b j b4->e.run m.k b4.k=some false):
 ∀(τ:List Nat) (done:List Nat) (ds:List c9) (c:Nat) (H:ae),(∀i ∈ τ,i ∈ I)->(∀i ∈ done,i ∈ I)->(done++τ).Nodup->(∀m ∈ ds,∃i ∈ done,∃b4,mg ops km b i b4/\m.k=b4.k)->H.get b=.mp ds c->
  ∃es ms fl jC,(gL P au ops (fA ops τ)).run call km H=.ok es km jC/\jC.get b=.mp (ds++ms) fl/\(∀k,b≠k->jC.get k=H.get k)/\(∀k,jC.set b k=H.set b k)/\(∀e ∈ es,∀k,b≠k->e.h.get k=H.get k)/\
   qB (fun i (m:c9)=>∃b4,mg ops km b i b4/\m.k=b4.k/\m.v=b4.v) τ ms
 | [],done,ds,c,H,_,_,_,_,lM=>⟨[],[],c,H,rfl,by rw [aqI];exact lM,fun _ _=>rfl,fun _=>rfl,fun e he=>by simp at he,.nil⟩
 | i::τ,done,ds,c,H,Fx,Tm,p4,u',lM=>by
   obtain ⟨o,A,m,aU,oy,⟨zt,xw⟩,hm,v,H1,ey,da⟩:=tk i (Fx i (by simp));obtain ⟨fB,S_,ah,ar,ay⟩:=agp hm;rw [oy] at S_;cases S_;have sc:i ∉ done:=fun h=>by rw [List.nodup_append] at p4;exact p4.2.2 i h i (by simp) rfl
   have jd:=acm zt oy da ah H ds c lM (fun b4 mB=>by
    obtain ⟨j,bU,ajC,aeM,ae7⟩:=u' b4 mB;rw [ae7,xw,<-ar]
    exact pY i j m ajC (Fx i (by simp)) (Tm j bU) (fun e=>sc (e ▸ bU)) ⟨o,aU,hm⟩ aeM)
   obtain ⟨_,aY,_⟩:=Cq oy;obtain ⟨es,ms,fl,jC,g1,g2,g3,g4,g6,g5⟩:=Lv tk pY τ (done++[i]) (ds++[⟨(b9 A.k).run (ei km (b8 ops o)),(b9 A.x).run (ei km (b8 ops o)),c⟩]) (c+1)
    (H.set b (.mp (ds++[⟨(b9 A.k).run (ei km (b8 ops o)),(b9 A.x).run (ei km (b8 ops o)),c⟩]) (c+1))) (fun j bU=>Fx j (by simp [bU]))
    (fun j bU=>by
      rcases arH.1 bU with h | h
      . exact Tm j h
      . simp only [aqV] at h;subst h;exact Fx j (by simp)) (by simpa using p4)
    (fun b4 mB=>by
      rcases arH.1 mB with h | h
      . obtain ⟨j,bU,r⟩:=u' b4 h;exact ⟨j,by simp [bU],r⟩
      . simp only [aqV] at h;subst h
        exact ⟨i,by simp,m,⟨o,aU,hm⟩,ar.symm⟩) (by rw [ae.fG,aqw rfl])
   have TW:=Hh (os:=fA ops τ) jd (by rw [aY];exact g1);rw [show o::fA ops τ=fA ops (i::τ) from by simp [fA,aU]] at TW;refine ⟨_,⟨(b9 A.k).run (ei km (b8 ops o)),(b9 A.x).run (ei km (b8 ops o)),c⟩::ms,fl,jC,TW,by rw [g2,aq7];rfl,fun k ar=>?_,fun k=>?_,fun dP fq k ar=>?_,.cons ⟨m,⟨o,aU,hm⟩,ar.symm,ay.symm⟩ g5⟩
   . rw [g3 k ar,ae.fG,aqr ar]
   . rw [g4];unfold ae.set;simp only [T.V4]
   . rcases aqN.1 fq with rfl | fq
     . rfl
     . rw [g6 dP fq k ar,ae.fG,aqr ar]
def rM (E:Env):List (V × V)->List MapEntry->Prop
 | [],l=>l=[]
 | p::bC,l=>∃e es,l=e::es/\Rel E p.1 e.key/\Rel E p.2 e.val/\rM E bC es
theorem rM.perm {E:Env} {bC kk:List (V × V)} (h:bC.Perm kk):∀{l:List MapEntry},rM E kk l->∃ed,rM E bC ed/\ed.Perm l:=by
 induction h with
 | nil=>intro l h;exact ⟨l,h,.refl _⟩
 | cons x _ aT=>
   intro l h;obtain ⟨e,es,rfl,U,ad,aC⟩:=h;obtain ⟨ed,g1,g2⟩:=aT aC;exact ⟨e::ed,⟨e,ed,rfl,U,ad,g1⟩,g2.cons e⟩
 | swap x y rC=>
   intro l h;obtain ⟨e,es,rfl,U,ad,dP,jG,rfl,aC,aX,bF⟩:=h;exact ⟨dP::e::jG,⟨dP,_,rfl,aC,aX,e,jG,rfl,U,ad,bF⟩,List.Perm.swap _ _ _⟩
 | trans _ _ cj ck=>
   intro l h;obtain ⟨cV,g1,g2⟩:=ck h;obtain ⟨gz,g3,g4⟩:=cj g1;exact ⟨gz,g3,g4.trans g2⟩
theorem rM.Vo {E:Env}:∀{ms:List c9} {l:List MapEntry},fc E ms l->rM E (ms.map fun m=>(m.k,m.v)) l
 | [],l,h=>h
 | m::ms,l,h=>by obtain ⟨e,es,rfl,U,ad,_,aX⟩:=h;exact ⟨e,es,rfl,U,ad,rM.Vo aX⟩
theorem mj.Vp {E:Env}:∀{ms:List c9} {l:List MapEntry},rM E (ms.map fun m=>(m.k,m.v)) l->mj E ms l
 | [],l,h=>h
 | m::ms,l,h=>by obtain ⟨e,es,rfl,U,ad,aX⟩:=h;exact ⟨e,es,rfl,U,ad,mj.Vp aX⟩
theorem a6.forget {al:Fr} {E:Env} {h:ae} {w:World} (s:a6 al E h w) {b:aN} {p:iq} {es ms:List c9} {c:Nat} (aJ:h.get b=.mp es c) (ai:E b=some p) (h3:(ms.map fun m=>(m.k,m.v)).Perm (es.map fun m=>(m.k,m.v))):
 a6 al E (h.set b (.jf ms)) w:=by
 have ah:=s.at ai;rw [aJ] at ah;obtain ⟨p',a,hM,cU,ba,hm⟩:=ah;rw [ai] at hM;cases hM;obtain ⟨l,g1,g2⟩:=rM.perm h3 (rM.Vo hm);exact s.set (by rw [aJ];rfl) ai cU (aqh _) (fun _ _=>rfl) rfl rfl rfl (fun _ _ _ e=>by cases e) ⟨p,a,c,l,ai,cU,ba,mj.Vp g1,g2⟩
theorem Uc:∀(l:List Oper),(∀o ∈ l,o.dst=none)->∀{r db:bQ} {h aA:ae} {es:List fj},(gL P au ops l).run call r h=.ok es db aA->∀o ∈ l,∃v H1 ey,(cQ P au ops o).run call r H1=.val v ey
 | [],_,_,_,_,_,_,_,o,aU=>by simp at aU
 | x::xs,aY,r,db,h,aA,es,he,o,aU=>by
   obtain ⟨v,U,iS,an,av,rfl⟩:=Hg he;rcases aqN.1 aU with rfl | aU
   . exact ⟨v,h,U,an⟩
   . rw [aY x (by simp)] at av;exact Uc xs (fun cm hz=>aY cm (by simp [hz])) av o aU
theorem ajd {t:TypeId} {H H1:ae} {c:aN} {off:Nat} (h:H.get c=H1.get c):(rh P t).run H (.ptr c off)=(rh P t).run H1 (.ptr c off):=by
 unfold rh;cases bj P t with
 | none=>rfl
 | some aP=>
   simp only;cases aP.agg with
   | true=>simp only [aqo,oK,V.kg,h]
   | false=>
     simp only [aqt];cases Nat.beq aP.size 1 with
     | true=>simp only [aqo,oL,V.kg,h]
     | false=>rfl
theorem aco {o:Oper} {t:TypeId} {x:Operand} (aU:o.op=.load t x) (aJ:o.guard=none) {r:bQ} {H1 ab:ae} {v:V} (he:(cQ P au ops o).run call r H1=.val v ab) {c:aN} {off:Nat} (ay:(b9 x).run (ei r (b8 ops o))=.ptr c off)
 (H:ae) (lM:H.get c=H1.get c):(cQ P au ops o).run call r H=.val v H:=by
 obtain ⟨U,ad⟩:=lG he;have key:cQ P au ops o=⟨jF none (fU P o) (b8 ops o)⟩:=by unfold cQ;rw [show (fm au o.dst&&jk (b8 ops o))=true from by rw [U,ad];rfl,aJ];rfl
 rw [key] at he ⊢;simp only [jF] at he ⊢;have xi:∀H,(fU P o).run call (ei r (b8 ops o)) H=a8.of H ((rh P t).run H (.ptr c off)):=by intro H;unfold fU;rw [aU];simp only [ay]
 rw [xi] at he ⊢;rw [ajd lM];exact a8.x7 he H
theorem UP {es:List fj} {h:ae} {b:aN}:∀{is:List Nat} {p:Nat},CH P ops es h b call au is p=true->∀q i o t x,is[q]? =some i->ops[i]? =some o->o.op=.load t x->
 ∃e c off ab,es[p+q]? =some e/\(b9 x).run (ei e.r (b8 ops o))=.ptr c off/\c≠b/\o.guard=none/\(cQ P au ops o).run call e.r h=.val e.v ab
 | [],_,_,q,i,o,t,x,h,_,_=>by simp at h
 | j::agC,p,aD,q,i,o,t,x,aI,aU,nK=>by
   simp only [CH] at aD;cases q with
   | succ q=>
     cases bU:ops[j]? with
     | none=>rw [bU] at aD;cases aD
     | some apM=>
       rw [bU] at aD;simp only [aqi] at aD;have:=UP aD.2 q i o t x (by simpa using aI) aU nK;rw [show p + (q+1)=p+1+q from by omega];exact this
   | zero=>
     simp only [aqz,aqj] at aI;subst aI;rw [aU] at aD;simp only [aqi] at aD;have U:=aD.1;rw [nK] at U;simp only at U;rw [arI];cases he:es[p]? with
     | none=>rw [he] at U;cases U
     | some e=>
       rw [he] at U;simp only at U;cases ay:(b9 x).run (ei e.r (b8 ops o))<;>rw [ay] at U<;>simp only at U<;>try (cases U;done)
       rename_i c off;simp only [aqi,arb] at U;cases aJ:o.guard with
       | some _=>rw [aJ] at U;cases U.2
       | none=>
         rw [aJ] at U;simp only at U;have ad:=U.2;cases aa:(cQ P au ops o).run call e.r h with
         | fail=>rw [aa] at ad;cases ad
         | cB _ _=>rw [aa] at ad;cases ad
         | val v ab=>
           rw [aa] at ad;have bE:=JE ad;exact ⟨e,c,off,ab,rfl,ay,(fun e=>by rw [e,aN.Bz] at U;cases U.1),rfl,by rw [aa,bE]⟩
theorem zM {k:Nat}:∀{l:List Nat} {p:Nat},l.Nodup->l[p]? =some k->l.idxOf k=p
 | [],_,_,h=>by simp at h
 | x::xs,p,aL,h=>by
   rw [ash] at aL;cases p with
   | zero=>
     simp only [aqz,aqj] at h;subst h;simp
   | succ p=>
     have ay:xs[p]? =some k:=by simpa using h
     have dK:x≠k:=fun e=>aL.1 (e ▸ aqX ay);rw [List.idxOf_cons];simp only [arO,dK,aqt,show (x == k)=false from by simpa using dK];rw [zM aL.2 ay]
def nS (ops:Array Oper) (i:Nat):Bool:=
 match ops[i]? with
 | some o=>lk o
 | none=>false
theorem FE {o:Oper} {A:yN} (h:nk o=some A):lk o=true/\fr P o.op=true/\hO o=false:=by obtain ⟨aU,_,_⟩:=Cq h;refine ⟨by unfold lk;rw [aU],by rw [aU];rfl,by unfold hO;rw [aU]⟩
theorem ai' {aF:List Nat} {du eg:Nat} {t:TypeId} (aA:CD P ops aF du eg t=true):∀i o,ops[i]? =some o->∃df,(eQ [] ops.toList)[i]? =some df/\nr i o=true/\
 (∀k ok,ops[k]? =some ok->∃mk,(eQ [] ops.toList)[k]? =some mk/\pw i df (b8 ops o) o.dst k mk ok (Nat.blt (posOf aF k) (posOf aF i))=true)/\
 (posOf aF i<du->lk o=false/\eP P o=false/\(looks o.op=true->fr P o.op=false->∃t x,o.op=.load t x))/\
 (¬posOf aF i<du->posOf aF i<eg->∃A,nk o=some A/\A.t=t)/\
 (¬posOf aF i<du->¬posOf aF i<eg->fr P o.op=false/\looks o.op=false):=by
 unfold CD at aA;simp only [aqi] at aA;replace aA:=aA.2;intro i o aG;obtain ⟨df,U,ad⟩:=pz aA i o (by simpa using aG);simp only [aqW,aqi] at ad;obtain ⟨⟨aC,aX⟩,bF⟩:=ad;refine ⟨df,U,aC,fun k ok ar=>?_,fun a'=>?_,fun kR a'=>?_,fun kR aeS=>?_⟩
 . obtain ⟨mk,c1,dF⟩:=pz aX k ok (by simpa using ar);simp only [aqW] at dF;exact ⟨mk,c1,dF⟩
 . rw [show Nat.blt (posOf aF i) du=true from by rw [aqS];exact a'] at bF;simp only [aqo,aqi,arb,aro] at bF;refine ⟨bF.1.1,bF.1.2,fun aD he=>?_⟩;rcases bF.2 with (h | h) | h
   . rw [aD] at h;cases h
   . rw [he] at h;cases h
   . cases nK:o.op<;>rw [nK] at h<;>simp only at h<;>first
      | (cases h;done)
      | exact ⟨_,_,rfl⟩
 . rw [show Nat.blt (posOf aF i) du=false from by rw [<-Bool.not_eq_true,aqS];exact kR,show Nat.blt (posOf aF i) eg=true from by rw [aqS];exact a'] at bF;simp only [aqo,aqt] at bF;cases a_:nk o with
   | none=>rw [a_] at bF;cases bF
   | some A=>rw [a_] at bF;exact ⟨A,rfl,aq4 bF⟩
 . rw [show Nat.blt (posOf aF i) du=false from by rw [<-Bool.not_eq_true,aqS];exact kR,show Nat.blt (posOf aF i) eg=false from by rw [<-Bool.not_eq_true,aqS];exact aeS] at bF;simp only [aqt,aqi,arb] at bF;exact bF
theorem ai_ {order:List Nat} {es:List fj} {du:Nat} {b:aN} {km:bQ} {A:yN} (h:F5 ops order es du=some (b,km,A)):
 ∃e i o,es[du]? =some e/\order[du]? =some i/\ops[i]? =some o/\nk o=some A/\e.r=km:=by
 unfold F5 at h;cases he:es[du]? with
 | none=>rw [he] at h;cases h
 | some e=>
   rw [he] at h;simp only at h;cases aG:order[du]? with
   | none=>rw [aG] at h;cases h
   | some i=>
     rw [aG] at h;simp only at h;cases aU:ops[i]? with
     | none=>rw [aU] at h;cases h
     | some o=>
       rw [aU] at h;simp only at h;cases a_:nk o with
       | none=>rw [a_] at h;cases h
       | some fB=>
         rw [a_] at h;simp only at h;cases hm:(b9 fB.m).run (ei e.r (b8 ops o))<;>rw [hm] at h<;>simp only at h<;>try (cases h;done)
         simp only [aqj,aru] at h;obtain ⟨_,ad,rfl⟩:=h;exact ⟨e,i,o,rfl,rfl,aU,a_,ad⟩
theorem U0 {r:bQ} {b:aN} {f:Nat->V × V} (aA:∀i m,mg ops r b i m->f i=(m.k,m.v)):∀{is:List Nat} {ms:List c9},qB (fun i (m:c9)=>∃b4,mg ops r b i b4/\m.k=b4.k/\m.v=b4.v) is ms->ms.map (fun m=>(m.k,m.v))=is.map f
 | _,_,.nil=>rfl
 | _,_,.cons (a:=i) (b:=m) aV aB=>by obtain ⟨b4,U,ad,aC⟩:=aV;simp only [arE,U0 aA aB,aA i b4 U,ad,aC]
theorem Ac {n:Nat} {order aF:List Nat} (h3:lx n order aF=true) {p i:Nat} (h:order[p]? =some i):posOf aF i=p/\i<n:=by unfold lx at h3;simp only [aqi,aqT] at h3;obtain ⟨_,ad,_,aX⟩:=h3;have:=Ab aX h;rw [aqW] at this;refine ⟨by unfold posOf;rw [this];rfl,?_⟩;have:=(aqD.1 this).1;omega
theorem aj4 {l:List Nat} {f:Nat->Nat} (h:∀p i,l[p]? =some i->f i=p):l.Nodup:=by rw [List.Nodup,List.pairwise_iff_getElem];intro i j aG bU r' he;have U:=h i _ (aqm aG);have ad:=h j _ (aqm bU);rw [he,ad] at U;omega
theorem qB.left {α β:Type} {R:α->β->Prop}:∀{cV:List α} {gz:List β},qB R cV gz->∀x ∈ cV,∃y ∈ gz,R x y
 | _,_,.nil,x,h=>by simp at h
 | _,_,.cons aV aB,x,h=>by
   rcases aqN.1 h with rfl | h
   . exact ⟨_,by simp,aV⟩
   . obtain ⟨y,U,ad⟩:=aB.left x h;exact ⟨y,by simp [U],ad⟩
theorem agv {o:Oper} (h:lk o=true):fr P o.op=true/\hO o=false:=by
 unfold lk at h;unfold hO;cases aU:o.op<;>rw [aU] at h<;>simp only at h<;>first
  | (cases h;done)
  | exact ⟨rfl,rfl⟩
theorem anG {pre σ post:List Nat} (p4:(pre++(σ++post)).Nodup) (k q:Nat):(pre[q]? =some k->(pre++(σ++post)).idxOf k=q)/\(σ[q]? =some k->(pre++(σ++post)).idxOf k=pre.length+q)/\(post[q]? =some k->(pre++(σ++post)).idxOf k=pre.length+σ.length+q):=by
 refine ⟨fun h=>zM p4 ?_,fun h=>zM p4 ?_,fun h=>zM p4 ?_⟩
 . have:=(aqD.1 h).1;rw [aqG this];exact h
 . have:=(aqD.1 h).1;rw [aqH (by omega),Nat.add_sub_cancel_left,aqG this];exact h
 . rw [aqH (by omega),aqH (by omega)];rw [show pre.length+σ.length+q-pre.length-σ.length=q from by omega];exact h
theorem aja {rd:Option Nat} {D:List Deferred} {al:Fr} {calls:Nat->eF} {es:List fj} {bZ:bQ} {aV:ae} {db:bQ} {aA:ae} {e7 order aF:List Nat} (bO:eO P) (cH:∀i,gu P (calls i)) (eu:∀i,gB P (calls i))
 (C:Cert P au ops calls es bZ aV db aA e7 order aF ops.size ops.size true) {jo:Env} {Q:Exit->Act->World->Prop}
 (cR:∀aw a1 w',jo.le aw->RegRel0 aw au db a1->a1.defers=D->a6 al aw aA w'->Q .normal a1 w') {yW:List Nat}
 (gp:∀i k,nS ops i=true->nS ops k=true->posOf aF k<posOf aF i->∀a b,yW=a++i::b->k ∈ a):
 ∀(fuel t:Nat) (listed:Array Bool) (done:List Nat) (a:Act) (w:World),yW=done++Region.linearise.go .any ops fuel t listed []->(∀k,k<ops.size->(listed.getD k false=true↔k ∈ done))->
  (List.range ops.size).countP (fun i=>!listed.getD i false)<=fuel->rD P al au ops es bZ aA e7 aF jo ops.size D listed a w->wpOpsIn (aK rd) 0 P ops Q (Region.linearise.go .any ops fuel t listed []) a w:=by
 have jI:∀i o,ops[i]? =some o->nr i o=true:=fun i o h=>by obtain ⟨_,_,ad,_⟩:=C.ov i o h;exact ad
 have fin:∀(listed:Array Bool) (a:Act) (w:World),(∀k,k<ops.size->listed.getD k false=true)->rD P al au ops es bZ aA e7 aF jo ops.size D listed a w->Q .normal a w:=by intro listed a w e_ I;obtain ⟨aw,g1,g2,g3,g4⟩:=R' C (aqh _) I fun k ar _=>e_ k ar;exact cR aw a w g1 g2 g3 g4
 intro fuel
 induction fuel with
 | zero=>
   intro t listed done a w tl KE aq I;have aV:(List.range ops.size).countP (fun i=>!listed.getD i false)=0:=by omega
   rw [List.countP_eq_zero] at aV;exact fin listed a w (fun k ar=>by simpa using aV k (arQ.2 ar)) I
 | succ fuel aT=>
   intro t listed done a w tl KE aq I;rw [go_succ] at tl ⊢;cases aa:yk ops t listed with
   | none=>exact fin listed a w (fun k ar=>Af jI I.tK (V_ aa) k ar) I
   | some i=>
     rw [aa] at tl;simp only at tl ⊢;obtain ⟨i1,i2⟩:=yl I.tK (Ny aa);have aD:i<listed.size:=by rw [I.tK];exact i1
     have apa:=count_set I.tK i1 i2;rw [wpOpsIn_cons];refine Si bO cH eu C I (Ny aa) (C.gX i i1).1 (fun _ o k ok cL xu E_ ae6 a'=>?_) (fun a1 w' HI=>aT _ _ (done++[i]) a1 w' (by rw [aq7];exact tl) (fun k ar=>?_) (by omega) HI) (fun _ _ _ _ _ _ _ h=>absurd h (arv _))
     . have ar:k<ops.size:=(aql.1 E_).1;exact (KE k ar).2 (gp i k (by unfold nS;rw [cL];exact xu) (by unfold nS;rw [E_];exact ae6) a' _ _ tl)
     . rw [gT aD,KE k ar,arH,aqV];exact Or.comm
def Jz (ops:Array Oper) (r:bQ) (b:aN) (i:Nat):V × V:=
 match ops[i]? with
 | some o=>(match vn ops r b o with
   | some m=>(m.k,m.v)
   | none=>(.bad,.bad))
 | none=>(.bad,.bad)
theorem So {r:bQ} {b:aN} {i:Nat} {m:c9} (h:mg ops r b i m):Jz ops r b i=(m.k,m.v):=by obtain ⟨o,U,ad⟩:=h;unfold Jz;rw [U];simp only [ad]
theorem U1 {r:bQ} {b:aN}:∀{is:List Nat} {ms:List c9},qB (mg ops r b) is ms->ms.map (fun m=>(m.k,m.v))=is.map (Jz ops r b)
 | _,_,.nil=>rfl
 | _,_,.cons aV aB=>by simp only [arE,U1 aB,So aV]
theorem ajb {rd:Option Nat} {al:Fr} {E:Env} {h:ae} {w:World} {id:Nat} (dt:P.follows .mixedOrders=true) (bO:eO P) (cH:gu P call) (eu:gB P call) {r:bQ} {a:Act} {order aF:List Nat} {du eg:Nat} (h3:lx ops.size order aF=true)
 {Q:Exit->Act->World->Prop} (ai:o2 al E au (Q .normal) Q (LO P au ops order aF du eg (gL P au ops (fA ops order)) call r h)) (k:gb E au r a) (s:a6 al E h w):(Code.region id ops true).wpIn (aK rd) 0 P Q a w:=by
 unfold LO at ai;cases da:(gL P au ops (fA ops order)).run call r h with
 | fail=>rw [da] at ai;exact ai.elim
 | cB _ _ _ _ _=>rw [da] at ai;exact ai.elim
 | ok es c4 ba=>
 rw [da] at ai;simp only at ai;cases p3:F5 ops order es du with
 | none=>rw [p3] at ai;exact ai.elim
 | some x=>
 obtain ⟨b,km,A⟩:=x;rw [p3] at ai;simp only at ai;cases oz:(cw es ba du).get b<;>rw [oz] at ai<;>try (exact False.elim ai)
 rename_i acO mm;cases acO with
 | cons _ _=>exact False.elim ai
 | nil=>
 simp only at ai;cases zu:xN ops km b ((order.drop du).take (eg-du)) with
 | none=>rw [zu] at ai;exact ai.elim
 | some ms=>
 rw [zu] at ai;simp only at ai;cases aq:(CD P ops aF du eg A.t&&(A' (vt P A.t) ms&&(CH P ops es (cw es ba du) b call au (order.take du) 0&&BB ((b9 A.m).run c4) (.map b)))) with
 | false=>rw [aq] at ai;exact ai.elim
 | true=>
 rw [aq] at ai;simp only [aqo] at ai;simp only [aqi] at aq;obtain ⟨Fa,pY,bM,tu⟩:=aq;have tu:=JE tu;obtain ⟨lj,VR,apP⟩:=C6 h3;have KN:order.Nodup:=aj4 fun p i h=>(Ac h3 h).1;obtain ⟨ef,i0,bp,Kf,p1,afp,BI,aeN⟩:=ai_ p3;obtain ⟨al4,-,-,-⟩:=v8 da;have hlen:es.length=ops.size:=by rw [al4,n1,lj]
 have ka:du<ops.size:=by rw [<-lj];exact (aqD.1 p1).1
 have ov:=ai' Fa;generalize p5:order.take du=pre at bM;generalize xu:(order.drop du).take (eg-du)=ins at zu;generalize TO:(order.drop du).drop (eg-du)=post;have lR:order=pre++(ins++post):=by rw [<-p5,<-xu,<-TO,arS,arS]
 have zy:pre.length=du:=by rw [<-p5,ard];omega
 have apn:du<eg:=by
  obtain ⟨xA,_⟩:=Ac h3 p1;rcases ark du eg with h | h
  . exact h
  . exfalso;obtain ⟨_,_,_,_,_,_,f3⟩:=ov i0 bp afp;obtain ⟨ay,_⟩:=f3 (by omega) (by omega);rw [(FE (P:=P) BI).2.1] at ay;cases ay
 have ae2:ins.length=eg-du\/post=[]:=by
  rcases ark (eg-du) (order.drop du).length with h | h
  . left;rw [<-xu,ard];omega
  . right;rw [<-TO];exact ara h
 have Iz:∀q i,pre[q]? =some i->posOf aF i=q/\i<ops.size/\q<du:=by intro q i h;have aI:=(aqD.1 h).1;obtain ⟨U,ad⟩:=Ac h3 (p:=q) (i:=i) (by rw [lR,aqG aI];exact h);exact ⟨U,ad,by omega⟩
 have Ix:∀q i,ins[q]? =some i->posOf aF i=du+q/\i<ops.size/\du+q<eg:=by
  intro q i h;have aI:=(aqD.1 h).1;obtain ⟨U,ad⟩:=Ac h3 (p:=du+q) (i:=i) (by rw [lR,aqH (by omega),zy,Nat.add_sub_cancel_left,aqG aI];exact h);refine ⟨U,ad,?_⟩;have:ins.length<=eg-du:=by rw [<-xu,ard];omega
  omega
 have Iy:∀q i,post[q]? =some i->posOf aF i=du+ins.length+q/\i<ops.size/\ins.length=eg-du:=by
  intro q i h;have aD:ins.length=eg-du:=by
   rcases ae2 with ab | ab
   . exact ab
   . rw [ab] at h;simp at h
  obtain ⟨U,ad⟩:=Ac h3 (p:=du+ins.length+q) (i:=i) (by rw [lR,aqH (by omega),aqH (by omega),zy,show du+ins.length+q-du-ins.length=q from by omega];exact h);exact ⟨U,ad,aD⟩
 have Xp:∀i,i<ops.size->(∃q:Nat,pre[q]? =some i)\/(∃q:Nat,ins[q]? =some i)\/∃q:Nat,post[q]? =some i:=by
  intro i aG;have hm:i ∈ order:=aqX (VR i aG).2;rw [lR,arH,arH] at hm;rcases hm with h | h | h
  . exact .inl (aqY.1 h)
  . exact .inr (.inl (aqY.1 h))
  . exact .inr (.inr (aqY.1 h))
 have Nk:∀i o,i ∈ pre->ops[i]? =some o->lk o=false/\eP P o=false/\(looks o.op=true->fr P o.op=false->∃t x,o.op=.load t x):=by intro i o aG aU;obtain ⟨q,aI⟩:=aqY.1 aG;obtain ⟨U,ad,aC⟩:=Iz q i aI;obtain ⟨_,_,_,_,f1,_,_⟩:=ov i o aU;exact f1 (by omega)
 have Cr:∀i,i ∈ ins->∃o fB,ops[i]? =some o/\nk o=some fB/\fB.t=A.t:=by intro i aG;obtain ⟨q,aI⟩:=aqY.1 aG;obtain ⟨U,ad,aC⟩:=Ix q i aI;obtain ⟨_,_,_,_,_,f2,_⟩:=ov i _ (aqA ad);obtain ⟨fB,g1,g2⟩:=f2 (by omega) (by omega);exact ⟨_,fB,aqA ad,g1,g2⟩
 have C8:∀i o,i ∈ post->ops[i]? =some o->fr P o.op=false/\looks o.op=false:=by intro i o aG aU;obtain ⟨q,aI⟩:=aqY.1 aG;obtain ⟨U,ad,aC⟩:=Iy q i aI;obtain ⟨_,_,_,_,_,_,f3⟩:=ov i o aU;exact f3 (by omega) (by omega)
 have Lt:∀i,i<ops.size->(nS ops i=true↔i ∈ ins):=by
  intro i aG;have cL:ops[i]? =some ops[i]:=aqA aG;constructor
  . intro h;unfold nS at h;rw [cL] at h;simp only at h;rcases Xp i aG with ⟨q,aI⟩ | ⟨q,aI⟩ | ⟨q,aI⟩
    . rw [(Nk i _ (aqX aI) cL).1] at h;cases h
    . exact aqX aI
    . have:=(C8 i _ (aqX aI) cL).1;rw [(agv (P:=P) h).1] at this;cases this
  . intro h;obtain ⟨o,fB,g1,g2,_⟩:=Cr i h;unfold nS;rw [g1];exact (FE (P:=P) g2).1
 have KO:ins.Nodup:=by rw [lR] at KN;exact (List.nodup_append.1 (List.nodup_append.1 KN).2.1).1
 have vg:=da;rw [lR,CV,CV] at vg;obtain ⟨iS,ca,U,acP,xC,TQ,r6⟩:=N0 _ _ vg;obtain ⟨r0,b5,ad,JG,ni,afB,apb⟩:=N0 _ _ TQ;obtain ⟨cV,-,-,-⟩:=v8 xC;rw [n1,zy] at cV;obtain ⟨-,b0,bn,-⟩:=v8 TQ;have Tp:acP[0]? =some ef:=by rw [r6,aqH (by omega),cV,ar7] at Kf;exact Kf
 have afD:ca=km:=by unfold eN at bn;rw [Tp] at bn;exact bn.symm.trans aeN
 have aeX:cw es ba du=U:=by unfold cw at b0 ⊢;rw [Kf];rw [Tp] at b0;exact b0
 subst afD;rw [aeX] at oz bM;have tk:∀i ∈ ins,∃o fB m,ops[i]? =some o/\nk o=some fB/\(Cv P fB.t=true/\vt P fB.t=vt P A.t)/\vn ops ca b o=some m/\∃v H1 ey,(cQ P au ops o).run call ca H1=.val v ey:=by
  intro i aG;obtain ⟨o,fB,g1,g2,g3⟩:=Cr i aG;obtain ⟨m,_,cm,g4,g5⟩:=(FC zu).left i aG;rw [g1] at g4;cases g4;refine ⟨o,fB,m,g1,g2,⟨by rw [g3];unfold CD at Fa;rw [aqi] at Fa;exact Fa.1,by rw [g3]⟩,g5,Uc (fA ops ins) (fun bI pe=>?_) ni o ?_⟩
  . obtain ⟨q,aI⟩:=aqY.1 pe;have vf:q<ins.length:=by rw [<-n1 (ops:=ops)];exact (aqD.1 aI).1
    obtain ⟨eR,fT,sj,ra,_⟩:=Cr _ (aq1 vf);have:=lu (aqm vf) sj;rw [aI] at this;cases this;exact (Cq ra).2.1
  . obtain ⟨q,aI⟩:=aqY.1 aG;exact aqX (lu aI g1)
 have xf:=PI (FC zu) KO pY;obtain ⟨aoW,apF,aoN,oa,JV,ao1,ao2,adw,_,ao3⟩:=Lv tk xf ins [] [] mm U (fun i aG=>aG) (fun i aG=>by simp at aG) (by simpa using KO) (fun m hm=>by simp at hm) oz;rw [ni] at JV;simp only [rE.ok.injEq] at JV;obtain ⟨-,afA,aef⟩:=JV;subst afA aef
 obtain ⟨Kw,afz⟩:=V7 (fA ops post) (fun bI pe=>by
  obtain ⟨q,aI⟩:=aqY.1 pe;have vf:q<post.length:=by rw [<-n1 (ops:=ops)];exact (aqD.1 aI).1
  obtain ⟨_,Tx,_⟩:=Iy q _ (aqm vf);have:=lu (aqm vf) (aqA Tx);rw [aI] at this;cases this;exact C8 _ _ (aq1 vf) (aqA Tx)) afB
 subst Kw;refine wpIn_region_draw fun t=>?_;simp only [Region.schedule,dt,Bool.true_or,aqu];have jI:∀i o,ops[i]? =some o->nr i o=true:=fun i o h=>by obtain ⟨_,_,ad,_⟩:=ov i o h;exact ad
 have eC:∀k,¬(Array.replicate ops.size false).getD k false=true:=by
  intro k;rw [u1,Array.getElem?_replicate]
  split<;>simp
 obtain ⟨s1,s2,yr⟩:=S2 (ops:=ops) jI ops.size t (Array.replicate ops.size false) (by simp) (aqn ar6 (by simp));change wpOpsIn (aK rd) 0 P ops Q (Region.linearise.go .any ops ops.size t (Array.replicate ops.size false) []) a {w with drawn:=w.drawn+1};generalize tl:Region.linearise.go .any ops ops.size t (Array.replicate ops.size false) []=yW at s1 s2 yr;generalize Lp:yW.filter (nS ops)=σ;have L1:∀k,k ∈ σ↔k ∈ ins:=by
  intro k;rw [<-Lp,asg];constructor
  . rintro ⟨g1,g2⟩;exact (Lt k (s2 k g1).1).1 g2
  . intro g;obtain ⟨q,aI⟩:=aqY.1 g;have ar:=(Ix q k aI).2.1;refine ⟨?_,(Lt k ar).2 g⟩;rcases yr k ar with h | h
    . exact absurd h (eC k)
    . exact h
 have TH:σ.Nodup:=by rw [<-Lp];exact s1.filter _
 have K0:σ.Perm ins:=(List.perm_ext_iff_of_nodup TH KO).2 L1;have T6:σ.length=ins.length:=K0.length_eq;have nh:(pre++(σ++post)).Perm order:=by rw [lR];exact (K0.append_right post).append_left pre
 have KP:(pre++(σ++post)).Nodup:=nh.nodup_iff.2 KN;have B0:(pre++(σ++post)).length=ops.size:=by rw [nh.length_eq,lj]
 have D3:=anG KP;generalize afu:(List.range ops.size).map (fun k=>(pre++(σ++post)).idxOf k)=l7;have zx:∀k,k<ops.size->posOf l7 k=(pre++(σ++post)).idxOf k:=by intro k ar;rw [<-afu];unfold posOf;rw [aq3,List.getElem?_range ar];rfl
 have C1:∀i,i<ops.size->i ∈ pre->posOf l7 i=posOf aF i/\posOf aF i<du:=by intro i aG hm;obtain ⟨q,aI⟩:=aqY.1 hm;obtain ⟨g1,_,g3⟩:=Iz q i aI;rw [zx i aG,(D3 i q).1 aI,g1];exact ⟨rfl,g3⟩
 have C0:∀i,i<ops.size->i ∈ ins->∃q:Nat,σ[q]? =some i/\posOf l7 i=du+q/\q<ins.length/\du<=posOf aF i/\posOf aF i<du+ins.length:=by intro i aG hm;obtain ⟨q,aI⟩:=aqY.1 ((L1 i).2 hm);obtain ⟨fb,nM⟩:=aqY.1 hm;obtain ⟨g1,_,g3⟩:=Ix fb i nM;have:=(aqD.1 aI).1;have:=(aqD.1 nM).1;exact ⟨q,aI,by rw [zx i aG,(D3 i q).2.1 aI,zy],by omega,by omega,by omega⟩
 have MO:∀i,i<ops.size->i ∈ post->posOf l7 i=posOf aF i/\du+ins.length<=posOf aF i:=by intro i aG hm;obtain ⟨q,aI⟩:=aqY.1 hm;obtain ⟨g1,_,_⟩:=Iy q i aI;rw [zx i aG,(D3 i q).2.2 aI,g1,T6,zy];exact ⟨rfl,by omega⟩
 have cls:∀i,i<ops.size->i ∈ pre\/i ∈ ins\/i ∈ post:=by
  intro i aG;rcases Xp i aG with ⟨q,aI⟩ | ⟨q,aI⟩ | ⟨q,aI⟩
  . exact .inl (aqX aI)
  . exact .inr (.inl (aqX aI))
  . exact .inr (.inr (aqX aI))
 obtain ⟨w4,apG,aoO,AO,SW,adx,ady,adz,adB,adA⟩:=Lv tk xf σ [] [] mm U (fun i aG=>(L1 i).1 aG) (fun i aG=>by simp at aG) (by simpa using TH) (fun m hm=>by simp at hm) oz;obtain ⟨zc,afC⟩:=afz AO;have TU:=N1 _ _ xC (N1 _ _ SW afC);rw [<-CV,<-CV] at TU;obtain ⟨aiy,-,-,-⟩:=v8 SW;rw [n1,T6] at aiy;obtain ⟨cp,z2,z3,z4⟩:=v8 TU;rw [n1,B0] at cp;have VS:∀k,k<ops.size->posOf l7 k<ops.size/\(pre++(σ++post))[posOf l7 k]? =some k:=by intro k ar;have hm:k ∈ pre++(σ++post):=nh.mem_iff.2 (aqX (VR k ar).2);obtain ⟨q,aI⟩:=aqY.1 hm;have K1:=zM KP aI;rw [zx k ar,K1];have:=(aqD.1 aI).1;exact ⟨by omega,aI⟩
 have ak1:∀p,p<ops.size->∃i,i<ops.size/\posOf l7 i=p:=by intro p ai;have aI:(pre++(σ++post))[p]? =some ((pre++(σ++post))[p]'(by omega)):=aqm _;have hm:(pre++(σ++post))[p]'(by omega) ∈ order:=nh.mem_iff.1 (aq1 _);obtain ⟨q,zz⟩:=aqY.1 hm;have a':=(Ac h3 zz).2;exact ⟨_,a',by rw [zx _ a'];exact zM KP aI⟩
 have RJ:∀j o,ops[j]? =some o->eP P o=true->j ∈ ins:=by
  intro j o aU nF;rcases cls j (aql.1 aU).1 with h | h | h
  . rw [(Nk j o h aU).2.1] at nF;cases nF
  . exact h
  . unfold eP at nF;rw [(C8 j o h aU).1] at nF;cases nF
 have Lu:∀k ok,k ∈ ins->ops[k]? =some ok->ok.dst=none/\lk ok=true:=by intro k ok ar bT;obtain ⟨o,fB,g1,g2,_⟩:=Cr k ar;rw [bT] at g1;cases g1;exact ⟨(Cq g2).2.1,(FE (P:=P) g2).1⟩
 have Zt:∀st,st=ops.size\/(∃k,k<ops.size/\k ∈ ins/\st=posOf l7 k)->∀c,b≠c->(cw (iS++(w4++zc)) AO st).get c=U.get c:=by
  rintro st (rfl | ⟨k,ar,h1,rfl⟩) c aq
  . unfold cw;rw [aqL (by omega)];exact ady c aq
  . obtain ⟨q,_,g2,g3,_⟩:=C0 k ar h1;have K2:q<w4.length:=by omega
    unfold cw;rw [g2,aqH (by omega),cV,Nat.add_sub_cancel_left,aqG K2,aqm K2];exact adB _ (aq1 K2) c aq
 have C:Cert P au ops (fun _=>call) (iS++(w4++zc)) r h c4 AO (gR P l7 0 ops.toList) (pre++(σ++post)) l7 ops.size ops.size true:=by
  refine ⟨cp,aqh _,aqh _,VS,ak1,z2,z3,?_,?_,?_,?_,?_,?_,fun h=>absurd h (arv _),fun h=>absurd h (arv _)⟩
  . intro i o aU _;exact z4 _ o (lu (VS i (aql.1 aU).1).2 aU)
  . intro i o cL;obtain ⟨df,f1,f2,f3,_⟩:=ov i o cL;refine ⟨df,f1,f2,fun _ k ok bT _=>?_⟩;obtain ⟨mk,f4,f5⟩:=f3 k ok bT;have aG:i<ops.size:=(aql.1 cL).1;have ar:k<ops.size:=(aql.1 bT).1;refine ⟨mk,f4,?_,fun he nF a'=>?_⟩
    . by_cases h1:k ∈ ins
      . unfold pw;rw [(Lu k ok h1 bT).1];simp
      . have ah:Nat.blt (posOf l7 k) (posOf l7 i)=Nat.blt (posOf aF k) (posOf aF i):=by
         rw [arc,aqS,aqS];rcases cls k ar with aq | aq | aq
         . obtain ⟨b7,a2⟩:=C1 k ar aq;rcases cls i aG with aY | aY | aY
           . obtain ⟨ct,c6⟩:=C1 i aG aY;omega
           . obtain ⟨q,_,c6,hv,mZ,oo⟩:=C0 i aG aY;omega
           . obtain ⟨ct,c6⟩:=MO i aG aY;omega
         . exact absurd aq h1
         . obtain ⟨b7,a2⟩:=MO k ar aq;rcases cls i aG with aY | aY | aY
           . obtain ⟨ct,c6⟩:=C1 i aG aY;omega
           . obtain ⟨q,_,c6,hv,mZ,oo⟩:=C0 i aG aY;omega
           . obtain ⟨ct,c6⟩:=MO i aG aY;omega
        rw [ah];exact f5
    . have h1:=RJ k ok bT nF;obtain ⟨apQ,_,c6,hv,mZ,oo⟩:=C0 k ar h1;rcases cls i aG with aY | aY | aY
      . obtain ⟨b7,a2⟩:=C1 i aG aY;omega
      . exact .inr ⟨rfl,(Lu i o aY cL).2,(Lu k ok h1 bT).2⟩
      . rw [(C8 i o aY cL).1] at he;cases he
  . have:=F0 (P:=P) (aF:=l7) (l:=ops.toList) (i:=0);simpa using this
  . intro j o g1 g2;have:=zT (P:=P) (aF:=l7) (i:=0) (j:=j) (l:=ops.toList) (o:=o) (by simpa using g1) g2;simpa using this
  . intro st di;rcases vw di with h | ⟨j,o,g1,g2,g3⟩
    . exact .inl (.inl (by simpa using h))
    . exact .inr ⟨j,o,by simpa using g1,g2,by simpa using g3⟩
  . intro j o pc aD he _;have bU:j<ops.size:=(aql.1 pc).1;have pd:j ∈ pre:=by
     rcases cls j bU with aY | aY | aY
     . exact aY
     . obtain ⟨cm,fB,g1,g2,_⟩:=Cr j aY;rw [pc] at g1;cases g1;rw [(FE (P:=P) g2).2.1] at he;cases he
     . rw [(C8 j o aY pc).2] at aD;cases aD
    obtain ⟨ui,Xx,nK⟩:=(Nk j o pd pc).2.2 aD he;obtain ⟨q,aI⟩:=aqY.1 pd;obtain ⟨b7,_,a3⟩:=Iz q j aI;obtain ⟨e,c,off,ab,e8,hR,y3,y4,OI⟩:=UP bM q j o ui Xx aI pc nK;have Kk:(iS++(w4++zc))[posOf l7 j]? =some e:=by rw [(C1 j bU pd).1,b7,aqG (by omega)];rw [aqW,r6,aqG (by omega)] at e8;exact e8
    refine ⟨e,Kk,fun st di _=>⟨call,_,⟨cH,eu⟩,aco nK y4 OI hR _ (Zt st ?_ c fun h=>y3 h.symm)⟩⟩;rcases vw di with h | ⟨bG,cm,g1,g2,g3⟩
    . exact .inl (by simpa using h)
    . have Fh:ops[bG]? =some cm:=by simpa using g1
      exact .inr ⟨bG,(aql.1 Fh).1,RJ bG cm Fh g2,by simpa using g3⟩
 have nc:∀(aw:Env) (a1:Act),E.le aw->a1.defers=a.defers->∀(bu:bQ),T.get .bad fF bu=T.get .bad fF r->lD aw (T.get .bad fF bu) a1.defers:=fun aw a1 he aY bu tx=>by rw [tx,aY];exact k.defers.mono he
 have E6:T.get .bad fF c4=T.get .bad fF r:=by have:=C.Jt ops.size (aqh _);have KQ:(iS++(w4++zc))[ops.size]? =none:=aqL (by omega);unfold eN at this;rw [KQ] at this;exact this
 have lf:Holds al al (iS++(w4++zc)) AO l7 (k5 ops (iS++(w4++zc)) AO l7 (Array.replicate ops.size false) 0):=
  ⟨rfl,fun _ _=>rfl,fun k ar=>(by obtain ⟨_,_,_,_,aV⟩:=ar;omega),fun k bG ar=>(by obtain ⟨_,_,_,_,aV⟩:=ar;omega)⟩
 obtain ⟨iL,ew,g1,g2,g3,g4,g5,g6⟩:=C.advance ops.size 0 (by omega) (fun k o _ _ _=>eC k) al lf (E:=E) (w:={w with drawn:=w.drawn}) (by rw [C.aV];exact s.same rfl rfl rfl rfl);rw [<-tl];refine aja (al:=al) bO (fun _=>cH) (fun _=>eu) C (jo:=E) (D:=a.defers) (yW:=yW) (fun aw a1 w' an av aH bP=>?_) (fun i k aG ar a' a1 b2 J6=>?_) ops.size t _ [] a _ (by rw [tl];rfl) (fun k _=>⟨fun h=>absurd h (eC k),fun h=>by simp at h⟩) (aqn ar6 (by simp)) ?_
 . refine ai aw a1 w' an ⟨av,nc aw a1 an aH c4 E6⟩ ?_;have nN:=ez av A.m;rw [tu] at nN;simp only [Rel] at nN;obtain ⟨p,aee,_⟩:=nN;rw [adw,<-adz];refine bP.forget adx aee ?_;rw [aq5,U1 (FC zu),U0 (fun i m h=>So h) adA];exact K0.symm.map _
 . have pb:i<ops.size:=by
    unfold nS at aG;cases aU:ops[i]? with
    | none=>rw [aU] at aG;cases aG
    | some o=>exact (aql.1 aU).1
   have lP:k<ops.size:=by
    unfold nS at ar;cases aU:ops[k]? with
    | none=>rw [aU] at ar;cases ar
    | some o=>exact (aql.1 aU).1
   have h1:=(Lt k lP).1 ar;have T5:σ=a1.filter (nS ops)++i::b2.filter (nS ops):=by rw [<-Lp,J6,List.filter_append,List.filter_cons_of_pos aG]
   have jt:posOf l7 i=du + (a1.filter (nS ops)).length:=by rw [zx i pb,(D3 i (a1.filter (nS ops)).length).2.1 (by rw [T5,aqH (aqh _),ar7];rfl),zy]
   obtain ⟨q,aI,Fj,_⟩:=C0 k lP h1;have vf:q < (a1.filter (nS ops)).length:=by omega
   rw [T5,aqG vf] at aI;exact (asg.1 (aqX aI)).1
 . refine ⟨by simp,k.size,rfl,fun bG ar=>absurd ar (eC bG),fun bG o e ar=>absurd ar (eC bG),E,iL,ew,Env.le.refl E,g1,g3,fun bG o U ad=>⟨fun h=>absurd h (eC bG),fun h=>by have:=g4 bG o U ad (aqZ _);omega⟩,
    fun bG o _ _ h=>absurd h (eC bG),g5,?_,fun t aB=>.inr ⟨fun bG o ar=>absurd ar (eC bG),k.ax t aB⟩⟩
   exact g6.same rfl rfl rfl rfl
theorem acq {rd:Option Nat} {al:Fr} {E:Env} {h:ae} {w:World} {id:Nat} (dt:P.follows .mixedOrders=true) (bO:eO P) (cH:gu P call) (eu:gB P call) {r:bQ} {a:Act}
 {Q:Exit->Act->World->Prop} (ai:o2 al E au (Q .normal) Q ((Jp P au ops).run call r h)) (k:gb E au r a) (s:a6 al E h w):(Code.region id ops true).wpIn (aK rd) 0 P Q a w:=by
 unfold Jp at ai;generalize CX P ops=order at ai;generalize GK order 0 ops.toList=aF at ai;unfold Sf at ai;cases aA:(lx ops.size order aF&&y8 P ops aF) with
 | false=>
   rw [aA] at ai;simp only [aqt] at ai;cases kB:(lx ops.size order aF&&uj P ops order aF) with
   | false=>
     rw [kB] at ai;simp only [aqt] at ai;cases Ko:lx ops.size order aF with
     | false=>rw [Ko] at ai;exact ai.elim
     | true=>
       rw [Ko] at ai;simp only [aqo] at ai;exact ajb dt bO cH eu Ko ai k s
   | true=>
     rw [kB] at ai;simp only [aqo] at ai;simp only [aqi] at kB;exact acr dt bO cH eu kB.1 kB.2 ai k s
 | true=>
   rw [aA] at ai;simp only [aqo] at ai;simp only [aqi] at aA;obtain ⟨h3,gi⟩:=aA;unfold lx at h3;simp only [aqi,aqT] at h3;obtain ⟨lj,pe,KU,KV⟩:=h3;have gX:∀k,k<ops.size->posOf aF k<ops.size/\order[posOf aF k]? =some k:=by
    intro k ar;have aJ:aF[k]? =some (posOf aF k):=by unfold posOf;rw [aqm (by omega)];rfl
    have:=Ab KU aJ;rw [aqW] at this;exact ⟨by have:=(aqD.1 this).1;omega,this⟩
   have jM:∀p,p<ops.size->∃i,i<ops.size/\posOf aF i=p:=by intro p ai;have aJ:order[p]? =some (order[p]'(by omega)):=aqm (by omega);have:=Ab KV aJ;rw [aqW] at this;refine ⟨order[p]'(by omega),by have:=(aqD.1 this).1;omega,?_⟩;unfold posOf;rw [this];rfl
   have yt:∀j o,ops[j]? =some o->eP P o=true->posOf aF j ∈ gR P aF 0 ops.toList:=fun j o U ad=>by simpa using zT (aF:=aF) (i:=0) (j:=j) (l:=ops.toList) (by simpa using U) ad
   have NZ:ops.size ∈ gR P aF 0 ops.toList:=by simpa using F0 (P:=P) (aF:=aF) (l:=ops.toList) (i:=0)
   have Dm:∀N M,∀s ∈ gR P aF 0 ops.toList,(s=ops.size\/(s=N/\M=N))\/∃k o,ops[k]? =some o/\eP P o=true/\s=posOf aF k:=fun N M s az=>by
    rcases vw az with h | ⟨j,o,U,ad,aC⟩
    . exact .inl (.inl (by simpa using h))
    . exact .inr ⟨j,o,by simpa using U,ad,by simpa using aC⟩
   have BQ:∀i o,ops[i]? =some o->∃df,(eQ [] ops.toList)[i]? =some df/\nr i o=true/\(posOf aF i<ops.size->
    ∀k ok,ops[k]? =some ok->posOf aF k<ops.size->∃mk,(eQ [] ops.toList)[k]? =some mk/\pw i df (b8 ops o) o.dst k mk ok (Nat.blt (posOf aF k) (posOf aF i))=true/\(fr P o.op=true->eP P ok=true->posOf aF k<posOf aF i->gD df k=true\/(false=true/\lk o=true/\lk ok=true))):=by
    intro i o aG;obtain ⟨df,g1,g2,g3⟩:=Se gi i o aG
    exact ⟨df,g1,g2,fun _ k ok ar _=>by
     obtain ⟨mk,e8,hR,y3⟩:=g3 k ok ar
     exact ⟨mk,e8,hR,fun a b c=>.inl (y3 a b c)⟩⟩
   have main:∀(q:DA),
    (∀es p0 N,es.length=N->N<=ops.size->(∀i o,ops[i]? =some o->posOf aF i<N->∃e,es[posOf aF i]? =some e/\(cQ P au ops o).run call e.r e.h=.val e.v (cw es p0 (posOf aF i+1)))->
      (N<ops.size->∃i0 bp,ops[i0]? =some bp/\posOf aF i0=N/\eP P bp=true)->q.run call es p0=true->∀j o,ops[j]? =some o->looks o.op=true->fr P o.op=false->posOf aF j<N->∃e,es[posOf aF j]? =some e/\∀s ∈ gR P aF 0 ops.toList,
      ri P (eQ [] ops.toList) ops.toList aF j (((eQ [] ops.toList)[j]?).getD 0) s=true->∃ab,(cQ P au ops o).run call e.r (cw es p0 s)=.val e.v ab)->
    o2 al E au (Q .normal) Q (En ops order aF (gL P au ops (fA ops order)) q call r h)->(Code.region id ops true).wpIn (aK rd) 0 P Q a w:=by
    intro q u6 da;unfold En at da;cases di:(gL P au ops (fA ops order)).run call r h with
    | fail=>rw [di] at da;exact da.elim
    | ok es c4 ba=>
      rw [di] at da;simp only at da;cases aI:q.run call es ba with
      | false=>rw [aI] at da;exact da.elim
      | true=>
        rw [aI] at da;simp only [aqo] at da;obtain ⟨an,av,aH,bP⟩:=v8 di;have hlen:es.length=ops.size:=by rw [an,n1,lj]
        have jd:∀i o,ops[i]? =some o->posOf aF i<ops.size->∃e,es[posOf aF i]? =some e/\(cQ P au ops o).run call e.r e.h=.val e.v (cw es ba (posOf aF i+1))/\eN es c4 (posOf aF i+1)=(gl o.dst).run e.r e.v:=
         fun i o aU _=>bP _ o (lu (gX i (aql.1 aU).1).2 aU)
        have C:Cert P au ops (fun _=>call) es r h c4 ba (gR P aF 0 ops.toList) order aF ops.size ops.size false:=
         ⟨hlen,aqh _,aqh _,gX,jM,av,aH,jd,BQ,NZ,yt,Dm _ _,
           fun j o U ad aC aX=>by obtain ⟨e,g1,g2⟩:=u6 es ba _ hlen (aqh _) (fun i o aU aG=>by obtain ⟨e,cp,z2,_⟩:=jd i o aU aG;exact ⟨e,cp,z2⟩) (fun h=>by omega) aI j o U ad aC aX;exact ⟨e,g1,fun s az hm=>by obtain ⟨ab,g3⟩:=g2 s az hm;exact ⟨_,ab,⟨cH,eu⟩,g3⟩⟩,
           fun h=>absurd h (arv _),fun h=>absurd h (arv _)⟩
        exact Jr dt bO cH eu k s C (fun _=>da) (fun _ _ _ _ _ _ _ h=>absurd h (arv _)) (fun h=>absurd h (arv _))
    | cB es c4 ba v ab=>
      rw [di] at da;simp only at da;cases aI:(vJ ops order aF es.length&&q.run call es ba) with
      | false=>rw [aI] at da;exact da.elim
      | true=>
        rw [aI] at da;simp only [aqo] at da;simp only [aqi] at aI;obtain ⟨tw,aI⟩:=aI;obtain ⟨av,aH,bP,bp,cE,dG,fX⟩:=WO di;have a':es.length<ops.size:=by have:=(aqD.1 cE).1;rw [n1,lj] at this;exact this
        obtain ⟨i0,p1,jt⟩:=jM es.length a';have cL:ops[i0]? =some ops[i0]:=aqA p1;have lR:=(gX i0 p1).2;rw [jt] at lR;have KT:bp=ops[i0]:=by have:=lu lR cL;rw [cE] at this;cases this;rfl
        subst KT;unfold vJ at tw;rw [lR] at tw;simp only at tw;obtain ⟨m0,B3,_⟩:=pz tw i0 ops[i0] (by simp);have Co:∀k ok,ops[k]? =some ok->∃mk,(eQ [] ops.toList)[k]? =some mk/\(es.length<posOf aF k->gD mk i0=true)/\(hO ok=true->posOf aF k<es.length->gD m0 k=true):=by
         intro k ok ar;obtain ⟨mk,cp,z2⟩:=pz tw k ok (by simpa using ar);simp only [aqW,aqi] at z2;refine ⟨mk,cp,fun aJ=>?_,fun a_ aD=>?_⟩
         . have:=z2.1;rw [show Nat.blt es.length (posOf aF k)=true from by rw [aqS];exact aJ] at this;exact this
         . have:=z2.2;rw [a_,show Nat.blt (posOf aF k) es.length=true from by rw [aqS];exact aD,B3] at this;exact this
        have u9:eP P ops[i0]=true:=by obtain ⟨bS,cJ⟩:=Ga (P:=P) dG;unfold eP;rw [bS,cJ];rfl
        have jd:∀i o,ops[i]? =some o->posOf aF i<es.length->∃e,es[posOf aF i]? =some e/\(cQ P au ops o).run call e.r e.h=.val e.v (cw es ba (posOf aF i+1))/\eN es c4 (posOf aF i+1)=(gl o.dst).run e.r e.v:=
         fun i o aU aD=>bP _ o aD (lu (gX i (aql.1 aU).1).2 aU)
        have C:Cert P au ops (fun _=>call) es r h c4 ba (gR P aF 0 ops.toList) order aF es.length ops.size false:=
         ⟨rfl,arh a',arh a',gX,jM,av,aH,jd,BQ,by rw [<-jt];exact yt i0 _ cL u9,yt,Dm _ _,
           fun j o U ad aC aX=>by obtain ⟨e,g1,g2⟩:=u6 es ba _ rfl (arh a') (fun i o aU aG=>by obtain ⟨e,cp,z2,_⟩:=jd i o aU aG;exact ⟨e,cp,z2⟩) (fun _=>⟨i0,_,cL,jt,u9⟩) aI j o U ad aC aX;exact ⟨e,g1,fun s az hm=>by obtain ⟨ab,g3⟩:=g2 s az hm;exact ⟨_,ab,⟨cH,eu⟩,g3⟩⟩,
           fun h=>absurd h (arv _),fun _ _=>⟨i0,_,m0,cL,jt,dG,B3,fun k ok mk ar aJ tt=>by
            obtain ⟨mk',cp,z2,_⟩:=Co k ok ar;rw [tt] at cp;cases cp;exact z2 aJ,fun k ok ar a_ aD=>by
            obtain ⟨mk',cp,_,z3⟩:=Co k ok ar;exact z3 a_ aD,v,ab,fX⟩⟩
        refine Jr dt bO cH eu k s C (fun h=>absurd h (by omega)) (fun aw a1 w' x v1 U g1 _ _ g3 g4 g5 g6=>?_) (fun h=>absurd h (arv _));obtain ⟨i1,bb,cp,z2,z3⟩:=g3;have:i1=i0:=C.tT (aql.1 cp).1 p1 (by rw [z2,jt]);subst this;rw [cL] at cp;cases cp;rw [fX] at z3;cases z3;exact da aw a1 w' x g1 g4 g5 g6
   cases aD:o6 P ops.toList with
   | false=>
     rw [aD] at ai;have none:∀(l:List Oper),o6 P l=false->∀(j:Nat) (o:Oper),l[j]? =some o->fr P o.op=false:=by
      intro l
      induction l with
      | nil=>intro _ j o h;simp at h
      | cons x l aT=>
        intro h j o aU;simp only [o6,ar9] at h;cases j with
        | zero=>simp only [aqz,aqj] at aU;subst aU;exact h.1
        | succ j=>exact aT h.2 j o (by simpa using aU)
     refine main _ (fun es p0 N hlen hle jd TX _ j o aU bM aI BW=>?_) ai;have J4:N=ops.size:=by
      rcases ark N ops.size with a' | kR
      . obtain ⟨i0,bp,cp,z2,z3⟩:=TX a';have:=none _ aD i0 bp (by simpa using cp);unfold eP at z3;rw [this] at z3;cases z3
      . omega
     obtain ⟨e,cc,cy⟩:=jd j o aU BW;refine ⟨e,cc,fun s az _=>?_⟩;have kF:s=ops.size:=by
      rcases vw az with h | ⟨FG,cm,U,ad,aC⟩
      . simpa using h
      . have:=none _ aD FG cm U;unfold eP at ad;rw [this] at ad;cases ad
     have flat:∀d,d<=ops.size->cw es p0 d=cw es p0 0:=by
      intro d
      induction d with
      | zero=>intro _;rfl
      | succ d aT=>
        intro aY;obtain ⟨i,xt,pb⟩:=jM d (by omega);have cL:ops[i]? =some ops[i]:=aqA xt;obtain ⟨acw,b0,bn⟩:=jd i ops[i] cL (by omega);rw [pb] at b0 bn;have dK:fr P ops[i].op=false:=none _ aD i _ (by simp);rw [(wY dK bn).1,<-aT (by omega)];simp [cw,b0]
     have:e.h=cw es p0 s:=by rw [kF,flat ops.size (aqh _),<-flat (posOf aF j) (by omega)];simp [cw,cc]
     rw [<-this];exact ⟨_,cy⟩
   | true=>
     rw [aD] at ai;refine main _ (fun es p0 N hlen hle jd TX K1 j o aU bM aI BW=>?_) ai;obtain ⟨e,cc,_⟩:=jd j o aU BW;have:=Iv K1 j o (by simpa using aU) bM aI e (by simpa using cc);exact ⟨e,cc,by simpa using this⟩
end
def toExit:bV->Exit
 | .normal=>.normal
 | .exit id=>.exit id
 | .ret=>.ret
def Yx (C:Ctx):Prop:=
 ∀f p args h v ab,C.C' f=some p->p.run args h=.val v ab->(∃fn,C.P.funcs[f]? =some fn/\fn.body.isSome=true)/\∀(al:Fr) E w xs,bm E args xs->a6 al E h w->
  Calls C.P f xs.toArray w fun e w'=>∃aw x,e=.returned x/\E.le aw/\Rel aw v x/\a6 al aw ab w'
def XU (C:Ctx):Prop:=
 ∀f p args h v ab,C.ext f=some p->p.run args h=.val v ab->∀(al:Fr) E w xs,bm E args xs->a6 al E h w->
  ∃aw x w',(callFunc f xs.toArray).run C.P w=.ok (.value x) w'/\E.le aw/\Rel aw v x/\a6 al aw ab w'
def o3 (C:Ctx):Prop:=Yx C/\XU C
theorem qR {P:Program} {rd:Option Nat} (m:Machine):m.fenced P (aK rd):=fenced_wide P m
def Dv (rd:Option Nat) (P:Program) (c:Code) (Q:Exit->Act->World->Prop) (a:Act) (w:World):Prop:=
 match c with
 | .loop x=>∀(b:Frame) (k:List Item) (cs:List Frame),b.roundOf=rd->∃e a1 w',Q e a1 w'/\ArrivesIn (Machine.fenced P (aK rd)) P (lone (b.atR a (.code x::.inLoop x::k)) cs w) b k cs e a1 w'
 | c=>c.wpIn (aK rd) 0 P Q a w
theorem Dv.wp {rd:Option Nat} {P:Program} {c:Code} {Q:Exit->Act->World->Prop} {a:Act} {w:World} (h:Dv rd P c Q a w):c.wpIn (aK rd) 0 P Q a w:=by
 cases c with
 | loop x=>
   intro b k cs kE _ _;obtain ⟨e,a1,w',q,r⟩:=h b k cs kE;exact ⟨e,a1,w',q,.of_steps (.one (qR _) stepR_loop) r⟩
 | _=>exact h
def yU (al:Fr) (E:Env) (au:Nat) (Q:Exit->Act->World->Prop):ny->Prop
 | .ok e r h=>∀aw a1 w',E.le aw->gb aw au r a1->a6 al aw h w'->Q (toExit e) a1 w'
 | .cB v r h=>∀aw a1 w' x,E.le aw->gb aw au r a1->Rel aw v x->a6 al aw h w'->Q (.panic (l3 x)) a1 w'
 | .fail=>False
theorem yU.up {al:Fr} {E aw:Env} (h:E.le aw) {au:Nat} {Q:Exit->Act->World->Prop} {x:ny} (k:yU al E au Q x):yU al aw au Q x:=by
 cases x with
 | ok e r ba=>exact fun b1 a w ad=>k b1 a w (h.trans ad)
 | cB v r ba=>exact fun b1 a w x ad=>k b1 a w x (h.trans ad)
 | fail=>exact k
def OY (P:Program) (au:Nat) (c:Code) (run:bQ->ae->ny):Prop:=
 ∀(rd:Option Nat) (al:Fr) r h,(rd=none\/noMark c=true)->∀E a w,gb E au r a->a6 al E h w->∀Q:Exit->Act->World->Prop,yU al E au Q (run r h)->Dv rd P c Q a w
def uC (P:Program) (ex:jq):Prop:=∀au c,OY P au c (ex au c)
def yn (tmps:Array Value):ResultVar->Sem Value
 | .tmp t=>pure (tmps.getD t undef)
 | .cell b t=>do loadVar t (<-asAddr (tmps.getD b undef))
theorem NC {P:Program} {al:Fr} {E:Env} {au:Nat} {r:bQ} {h:ae} {a:Act} {w:World} (k:RegRel0 E au r a) (s:a6 al E h w):∀{l:List ResultVar} {af:List V},(l8 P au l).run r h=some af->
 ∃xs,bm E af xs/\(l.mapM (yn a.tmps)).run P w=.ok xs w
 | [],af,he=>by simp only [l8,aqj] at he;subst he;exact ⟨[],rfl,rfl⟩
 | .tmp t::l,af,he=>by
   simp only [l8] at he;cases aq:(Nat.ble t top&&Nat.blt t au) with
   | false=>rw [aq] at he;cases he
   | true=>
     rw [aq] at he;simp only [aqo] at he;simp only [aqi,aqE] at aq;cases aa:(l8 P au l).run r h with
     | none=>rw [aa] at he;cases he
     | some us=>
       rw [aa] at he;simp only [aqj] at he;subst he;obtain ⟨xs,U,ad⟩:=NC k s aa;refine ⟨_::xs,by simp only [bm];exact ⟨_,_,rfl,k.ax t aq.1,U⟩,?_⟩;rw [List.mapM_cons,Sem.run_bind];simp only [yn,Sem.run_pure,Result.andThen_ok,Sem.run_bind,ad]
 | .cell b t::l,af,he=>by
   simp only [l8] at he;cases aq:(Nat.ble b top&&Nat.blt b au) with
   | false=>rw [aq] at he;cases he
   | true=>
     rw [aq] at he;simp only [aqo] at he;simp only [aqi,aqE] at aq;cases bE:(rh P t).run h (T.get .bad (aE b) r) with
     | none=>rw [bE] at he;cases he
     | some v=>
       rw [bE] at he;simp only at he;cases aa:(l8 P au l).run r h with
       | none=>rw [aa] at he;cases he
       | some us=>
         rw [aa] at he;simp only [aqj] at he;subst he;obtain ⟨xs,U,ad⟩:=NC k s aa;obtain ⟨Y,_,c_,A,oy,gF⟩:=UO (P:=P) s (k.ax b aq.1) bE;refine ⟨Y::xs,by simp only [bm];exact ⟨_,_,rfl,c_,U⟩,?_⟩;rw [List.mapM_cons,Sem.run_bind];simp only [yn,oy,asAddr,Sem.run_bind,Sem.run_pure,Result.andThen_ok,gF,ad]
theorem PR:∀(args:List V) (i:Nat) (t:bQ) (j:Nat),i+args.length<=top+1->j<=top->
 T.get .bad (aE j) (om i args t)=if i<=j/\j<i+args.length then (args[j-i]?).getD .bad else T.get .bad (aE j) t
 | [],i,t,j,_,_=>by
   have:¬(i<=j/\j<i):=by omega
   simp [om,this]
 | v::af,i,t,j,h,bU=>by
   simp only [aqp] at h ⊢;rw [om,PR af _ _ _ (by omega) bU];by_cases U:i+1<=j/\j<i+1+af.length
   . rw [aqw U,aqw (by omega)];have:j-i=(j - (i+1))+1:=by omega
     rw [this,aq6]
   . rw [aqr U,T.ja];by_cases ad:j=i
     . subst ad;rw [aqw rfl,aqw (by omega)];simp
     . rw [aqr (fun e=>ad (lv e).symm),aqr (by omega)]
theorem akt {E:Env} {af:List V} {xs:List Value} (h:bm E af xs) (fn:Func) (a:Act) (P:Program) (w:World)
 (aa:(fn.results.toList.mapM (yn a.tmps)).run P w=.ok xs w):∃x,(results fn a.tmps).run P w=.ok x w/\Rel E (oneOf af) x:=by
 have p3:(fn.results.mapM (yn a.tmps)).run P w=.ok xs.toArray w:=by rw [Array.mapM_eq_mapM_toList,Sem.run_map,aa];rfl
 have Ke:results fn a.tmps=(do
  let af <-fn.results.mapM (yn a.tmps)
  pure (if h:af.size=1 then af[0] else .tuple af)):=by
  unfold results
  have:(fun x=>match x with
   | ResultVar.tmp t=>(pure (a.tmps.getD t undef):Sem Value)
   | ResultVar.cell b t=>do loadVar t (<-asAddr (a.tmps.getD b undef)))=yn a.tmps:=by
   funext x;cases x<;>rfl
  rw [<-this];rfl
 have bX:(results fn a.tmps).run P w=.ok (if h:xs.toArray.size=1 then xs.toArray[0] else .tuple xs.toArray) w:=by rw [Ke,Sem.run_bind,p3];rfl
 refine ⟨_,bX,?_⟩
 match af,h with
 | [],h=>
   simp only [bm] at h;subst h;simp only [oneOf,Rel];exact ⟨#[],rfl,rfl⟩
 | [v],h=>
   simp only [bm] at h;obtain ⟨y,de,rfl,bg,rfl⟩:=h;simpa [oneOf] using bg
 | v::u::af,h=>
   have aD:=h.length;have dK:¬xs.toArray.size=1:=by simp at aD ⊢;omega
   rw [dif_neg dK];simp only [oneOf,Rel];exact ⟨_,rfl,by simpa using h⟩
section
variable {C:Ctx}
theorem PQ:∀(args:List V) (i:Nat) (t:bQ),i+args.length<=top+1->T.get .bad fF (om i args t)=T.get .bad fF t
 | [],_,_,_=>rfl
 | v::af,i,t,h=>by simp only [aqp] at h;simp only [om];rw [PQ af (i+1) _ (by omega),T.ja,aqr (yb (by omega))]
theorem Sq {E:Env} {au:Nat} {args:List V} {xs:List Value} (aD:bm E args xs) (gU:args.length<=au) (eZ:au<=top):
 gb E au (om 0 args .e) {tmps:=xs.toArray++Array.replicate (au-xs.toArray.size) undef,defers:=[]}:=by
 have hlen:=aD.length;refine ⟨⟨by simp;omega,fun t aB=>?_⟩,?_⟩
 . rw [PR _ _ _ _ (by omega) aB];by_cases a':t<args.length
   . rw [aqw (by omega),asd,aqm a'];obtain ⟨y,bg,c_⟩:=aD.get t args[t] (aqm a');simp only [arD];have:(xs.toArray++Array.replicate (au-xs.toArray.size) undef).getD t undef=y:=by
      rw [aqM,arK (by simp;omega)];simp [bg]
     rw [this];exact c_
   . rw [aqr (by omega)];simp [Rel]
 . rw [PQ _ _ _ (by omega)];simp [lD]
def i' (E:Env) (u:Option V) (m:FrameMode):Prop:=
 match u with
 | none=>m=.returning
 | some v=>∃x,Rel E v x/\m=.panicking (l3 x)
theorem i'.mono {E aw:Env} (h:E.le aw) {u:Option V} {m:FrameMode} (k:i' E u m):i' aw u m:=by
 cases u with
 | none=>exact k
 | some v=>obtain ⟨x,U,ad⟩:=k;exact ⟨x,Rel.mono h _ _ U,ad⟩
theorem i'.settle {E:Env} {u:Option V} {m:FrameMode} (k:i' E u m):settle m=m:=by
 cases u with
 | none=>simp only [i'] at k;subst k;rfl
 | some v=>obtain ⟨x,U,rfl⟩:=k;rfl
theorem i'.run {E:Env} {u:Option V} {m:FrameMode} (k:i' E u m):m≠.run:=by
 cases u with
 | none=>simp only [i'] at k;subst k;simp
 | some v=>obtain ⟨x,U,rfl⟩:=k;simp
def DC (P:Program) (lF:wx):Prop:=
 ∀f args u h eI ab,lF f args u h=.go eI ab->(∃fn,P.funcs[f]? =some fn/\fn.body.isSome=true)/\
  ∀(al:Fr) E w xs m,bm E args xs->i' E u m->a6 al E h w->CallsDIn (aK none) 0 P f xs.toArray m w fun e b4 w'=>∃aw x,e=.returned x/\E.le aw/\i' aw eI (settle b4)/\a6 al aw ab w'
theorem a6.gone {al:Fr} {E:Env} {h:ae} {w w':World} (s:a6 al E h w) {b:aN} {p:iq} (j2:(h.get b).own=true) (ai:E b=some p) (cU:al.w.heap.size<=p.bd)
 (a':w.heap.size<=w'.heap.size) (oE:∀j,j≠p.bd->w'.heap[j]? =w.heap[j]?) (sd:w'.os=w.os) (aB:w'.tape=w.tape) (aU:w'.output=w.output):a6 al E (h.set b .dead) w':=
 s.set j2 ai cU a' oE sd aB aU (fun _ _ _ e=>by cases e) trivial
theorem LL {P:Program} {lF:wx} (bO:eO P) (nc:DC P lF) {al:Fr} {fn:Func} {tmps:Array Value} {R:Ending->World->Prop}:∀(af:List V) (ds:List Deferred) (E:Env) (u:Option V) (h:ae) (w:World) (m:FrameMode) (eI:Option V) (ab:ae),
 oJ lF af u h=.go eI ab->mS E af ds->i' E u m->a6 al E h w->(∀aw b4 w',E.le aw->i' aw eI b4->a6 al aw ab w'->LeavesInM (aK none) 0 P fn tmps R [] b4 w')->LeavesInM (aK none) 0 P fn tmps R ds m w
 | [],ds,E,u,h,w,m,eI,ab,he,aY,hu,s,c_=>by simp only [oJ,uJ.go.injEq] at he;obtain ⟨rfl,rfl⟩:=he;simp only [mS] at aY;subst aY;exact c_ E m w (Env.le.refl E) hu s
 | v::af,ds,E,u,h,w,m,eI,ab,he,aY,hu,s,c_=>by
   obtain ⟨d,m',rfl,xl,xm⟩:=aY;cases v with
   | func f args=>
     simp only [oJ] at he;cases aq:lF f args u h with
     | fail=>rw [aq] at he;cases he
     | go qx U=>
       rw [aq] at he;simp only at he;obtain ⟨aA,cap,aB,aD⟩:=xl;obtain ⟨⟨EL,hL,ah⟩,cH⟩:=nc _ _ _ _ _ _ aq;refine ⟨hu.run,.inr ⟨fun h=>by simp at h,_,cap,f,d.args++cap,aB,?_,fun _ _=>trivial,?_⟩⟩
       . rw [aB];simp only [invoke];exact t' bO hL ah _ w
       . have e:d.args++cap=(d.args.toList++cap.toList).toArray:=by apply arX;simp
         rw [e];refine CallsDIn.mono (cH al E w _ m aD hu s) fun e m1 b0 aI=>?_;obtain ⟨hE,x,rfl,an,av,aH⟩:=aI;exact LL bO nc af m' hE qx U b0 (settle m1) eI ab he (xm.mono an) av aH fun b1 m2 bn cc cy eD=>c_ b1 m2 bn (an.trans cc) cy eD
   | ptr b off=>
     simp only [oJ] at he;cases aJ:h.get b<;>rw [aJ] at he<;>simp only at he<;>try (cases he;done)
     obtain ⟨p,ai,Kd⟩:=xl;have ah:=s.at ai;rw [aJ] at ah;obtain ⟨p',hM,cU,ba⟩:=ah;rw [ai] at hM;cases hM;have mC:=(aql.1 ba).1
     let b0:World:={w with heap:=w.heap.setIfInBounds p.bd (.deferred none)}
     have Ld:(Instr.takeDeferred p.bd).run P w=.ok [] b0:=by
      have fN:(getObj p.bd).run P w=.ok (.deferred (some [])) w:=by simp only [getObj,Sem.run,ba]
      have q_:(setObj p.bd (.deferred none)).run P w=.ok () b0:=by simp only [setObj,Sem.run,ba];rfl
      simp only [Instr.takeDeferred,Sem.run_bind,fN,Result.andThen_ok,q_,Sem.run_pure]
     have s1:a6 al E (h.set b .dead) b0:=s.gone (by rw [aJ];rfl) ai cU (by simp [b0]) (fun j bU=>by simp only [b0,aqF];rw [aqr (fun e=>bU e.symm)]) rfl rfl rfl;refine ⟨hu.run,.inl ⟨p.bd,b0,by rw [Kd],Ld,?_⟩⟩;exact LL bO nc af m' E u _ b0 m eI ab he xm hu s1 c_
   | _=>simp [oJ] at he
theorem Ai {P:Program} {al:Fr} {E:Env} {fn:Func} {r:bQ} {h:ae} {a:Act} {w:World} (k:RegRel0 E fn.ntmps r a) (s:a6 al E h w) {af:List V} (bE:(l8 P fn.ntmps fn.results.toList).run r h=some af):
 ∃x,(results fn a.tmps).run P w=.ok x w/\Rel E (oneOf af) x:=by
 obtain ⟨de,cc,cy⟩:=NC (P:=P) k s bE;exact akt cc fn a P w cy
section
variable {C:Ctx}
theorem aa9 (ex:jq):gB C.P (rU C ex):=by intro f args h v ab he;trivial
def sV (al:Fr) (E:Env) (R:Ending->World->Prop):a8->Prop
 | .val v ab=>∀aw x w',E.le aw->Rel aw v x->a6 al aw ab w'->R (.returned x) w'
 | .cB v ab=>∀aw x w',E.le aw->Rel aw v x->a6 al aw ab w'->R (.panicked (l3 x)) w'
 | .fail=>False
theorem sV.up {al:Fr} {E aw:Env} (h:E.le aw) {R:Ending->World->Prop} {x:a8} (k:sV al E R x):sV al aw R x:=by
 cases x with
 | val v ba=>exact fun b1 a w ad=>k b1 a w (h.trans ad)
 | cB v ba=>exact fun b1 a w ad=>k b1 a w (h.trans ad)
 | fail=>exact k
theorem JL (bO:eO C.P) {lF:wx} (nc:DC C.P lF) {al:Fr} {fn:Func} {E:Env} {r:bQ} {u:Option V} {h:ae} {a:Act} {w:World} {m:FrameMode} {R:Ending->World->Prop}
 (k:gb E fn.ntmps r a) (hu:i' E u m) (s:a6 al E h w)
 (ai:sV al E R (finish (l8 C.P fn.ntmps fn.results.toList) r (oJ lF (T.get .bad fF r).list u h))):LeavesInM (aK none) 0 C.P fn a.tmps R a.defers m w:=by
 cases aD:oJ lF (T.get .bad fF r).list u h with
 | fail=>rw [aD] at ai;exact ai.elim
 | go eI ab=>
   rw [aD] at ai;refine LL bO nc _ a.defers E u h w m eI ab aD k.defers.list hu s fun aw b4 w' an av aH=>?_;cases eI with
   | some v=>
     obtain ⟨x,ay,rfl⟩:=av;exact ai aw x w' an ay aH
   | none=>
     simp only [i'] at av;subst av;simp only [finish] at ai;cases bE:(l8 C.P fn.ntmps fn.results.toList).run r ab with
     | none=>rw [bE] at ai;exact ai.elim
     | some af=>
       rw [bE] at ai;obtain ⟨x,cc,cy⟩:=Ai (P:=C.P) (k.mono an).toRegRel0 aH bE;exact ⟨x,cc,ai aw x w' an cy aH⟩
theorem R4 {res:yV} {u eI:Option V} {x:ny} {ab:ae} (he:Ek res u x=.go eI ab):∃e r af,x=.ok e r ab/\(e=.normal\/e=.ret)/\T.get .bad fF r=.bad/\res.run r ab=some af/\eI=u:=by
 unfold Ek at he;cases x with
 | fail=>cases he
 | cB _ _ _=>cases he
 | ok e r h=>
   have main:(bif (T.get .bad fF r).Lw then (match res.run r h with
    | some _=>uJ.go u h
    | none=>.fail) else .fail)=.go eI ab->(e=.normal\/e=.ret)->∃dP bu af,ny.ok e r h=.ok dP bu ab/\(dP=.normal\/dP=.ret)/\T.get .bad fF bu=.bad/\res.run bu ab=some af/\eI=u:=by
    intro he jc;cases ah:(T.get .bad fF r).Lw with
    | false=>rw [ah] at he;cases he
    | true=>
      rw [ah] at he;simp only [aqo] at he;have aew:T.get .bad fF r=.bad:=by
       cases aJ:T.get .bad fF r<;>rw [aJ] at ah<;>first
        | rfl
        | cases ah
      cases bE:res.run r h with
      | none=>rw [bE] at he;cases he
      | some af=>
        rw [bE] at he;simp only [uJ.go.injEq] at he;obtain ⟨rfl,rfl⟩:=he;exact ⟨e,r,af,rfl,jc,aew,bE,rfl⟩
   cases e with
   | normal=>exact main he (.inl rfl)
   | ret=>exact main he (.inr rfl)
   | exit id=>cases he
theorem Wc {c:Code} {s:A6} (h:ym c=some s):∃id bb bI args types,c=.seq (.region id #[bb,bI] false) s.rest/\bb.dst=some s.d/\bb.op=.call ⟨.builtin .recover,args,types⟩/\bb.guard=none/\bI.dst=some s.e/\bI.op=.assign s.x/\bI.guard=none:=by
 unfold ym at h
 split at h
 case h_2=>cases h
 rename_i id ops rest
 split at h
 case h_2=>cases h
 rename_i bb bI aD
 split at h
 case h_2=>cases h
 rename_i d args types e x U ad aC aX bF bR;cases h;have afq:ops=#[bb,bI]:=by apply arX;simp [aD]
 subst afq;exact ⟨id,bb,bI,_,_,rfl,U,ad,aC,aX,bF,bR⟩
theorem ach (dt:C.P.follows .mixedOrders=true) (bO:eO C.P) {ex:jq} (hex:uC C.P ex):DC C.P (Ej C.P ex):=by
 intro f args u h eI ab he;unfold Ej at he;cases aA:C.P.funcs[f]? with
 | none=>rw [aA] at he;cases he
 | some fn=>
   rw [aA] at he;simp only at he;cases ah:fn.body with
   | none=>rw [ah] at he;cases he
   | some c=>
     rw [ah] at he;simp only at he;refine ⟨⟨fn,rfl,by rw [ah];rfl⟩,fun al E w xs m aD hu s=>?_⟩;cases eZ:Nat.ble fn.ntmps top with
     | false=>rw [eZ] at he;cases he
     | true=>
       rw [eZ] at he;simp only [aqo] at he;rw [aqE] at eZ;unfold R5 at he;cases gU:Nat.ble args.length fn.ntmps with
       | false=>rw [gU] at he;cases he
       | true=>
         rw [gU] at he;simp only [aqo] at he;rw [aqE] at gU;have k:=Sq aD gU eZ;cases aa:ym c with
         | none=>
           rw [aa] at he;simp only at he;obtain ⟨e,r,af,ay,jc,u',bE,rfl⟩:=R4 he;refine CallsDIn.mono (callsDIn_of_wp (R:=fun e w'=>∃aw x,e=.returned x/\E.le aw/\a6 al aw ab w') aA ah trivial ?_) fun dP b4 w' aI=>?_
           . refine (hex fn.ntmps c none al _ h (.inl rfl) E _ w k s _ ?_).wp;rw [ay];intro aw a1 w' an av aH;have aY:a1.defers=[]:=by have:=av.defers;rw [u'] at this;exact this
             obtain ⟨x,cc,cy⟩:=Ai (P:=C.P) av.toRegRel0 aH bE;rcases jc with rfl | rfl<;>exact ⟨aY,x,cc,aw,x,rfl,an,aH⟩
           . obtain ⟨rfl,aw,x,rfl,an,aH⟩:=aI;exact ⟨aw,x,rfl,an,by rw [hu.settle];exact hu.mono an,aH⟩
         | some dc=>
           rw [aa] at he;simp only at he;cases gi:(fm fn.ntmps (some dc.d)&&fm fn.ntmps (some dc.e)) with
           | false=>rw [gi] at he;cases he
           | true=>
             rw [gi] at he;simp only [aqo] at he;simp only [aqi] at gi;obtain ⟨e,r,af,ay,jc,u',bE,rfl⟩:=R4 he;obtain ⟨id,bb,bI,Nw,rt,rfl,g1,g2,g3,g4,g5,g6⟩:=Wc aa;refine callsDIn_of_wpSIn aA ah trivial fun nB cs xk=>wpSIn_seq (wpSIn_region ?_)
             obtain ⟨X,dD,mr,h0,b4,mB,Fl⟩:∃X,Rel E (u.getD .nilIface) X/\∃mr,(match recoverD (nB::cs) with
              | some (v,Jb)=>v=X/\Jb=mr
              | none=>X=.nilIface/\mr=nB::cs)/\∃b4,mr={nB with mode:=b4}::cs/\settle b4=.returning:=by
              cases u with
              | none=>
                simp only [i'] at hu;subst hu;refine ⟨.nilIface,rfl,nB::cs,?_,.returning,?_,rfl⟩
                . simp only [recoverD,xk];exact ⟨trivial,trivial⟩
                . rw [<-xk]
              | some v=>
                obtain ⟨x,ay,rfl⟩:=hu;refine ⟨x,ay,{nB with mode:=.panicking [{v:=x,recovered:=true}]}::cs,?_,.panicking [{v:=x,recovered:=true}],rfl,rfl⟩;simp only [recoverD,xk];exact ⟨trivial,trivial⟩
             have c1:=k.put gi.1 dD;have dF:=c1.put gi.2 (ez c1.toRegRel0 dc.x);rw [<-g1] at dF;rw [<-g4] at dF
             have se:=(hex fn.ntmps dc.rest none al _ h (.inl rfl) E _ w dF s (fun dP a1 w'=>bodyPostS C.P fn nB cs (fun e b4 w'=>∃aw x,e=.returned x/\E.le aw/\i' aw none (settle b4)/\a6 al aw ab w') dP a1 mr w') (by
              have:Wb dc u (om 0 args .e)=(gl bI.dst).run ((gl bb.dst).run (om 0 args .e) (u.getD .nilIface)) ((b9 dc.x).run ((gl bb.dst).run (om 0 args .e) (u.getD .nilIface))):=by rw [g1,g4];rfl
              rw [<-this,ay];intro aw a1 w' an av aH;have aY:a1.defers=[]:=by have:=av.defers;rw [u'] at this;exact this
              obtain ⟨x,cc,cy⟩:=Ai (P:=C.P) av.toRegRel0 aH bE
              rcases jc with rfl | rfl<;>exact ⟨aY,b4,mB,x,cc,aw,x,rfl,an,Fl,aH⟩)).wp
             have Ck:=wpSIn_of_wpIn (F:=aK none) rfl se;have pj:∀y,Region.wanted bb y=true:=fun y=>by simp [Region.wanted,g3]
             have hN:∀y,Region.wanted bI y=true:=fun y=>by simp [Region.wanted,g6]
             have K9:∀(ρ:Operand->Value),(execOp ρ bb).run C.P w=.ok .recover w:=fun ρ=>by obtain ⟨dst,op,type,pos,after,guard⟩:=bb;simp only at g2;subst g2;rfl
             have vg:∀(ρ:Operand->Value),(execOp ρ bI).run C.P w=.ok (.value (ρ dc.x)) w:=fun ρ=>by obtain ⟨dst,op,type,pos,after,guard⟩:=bI;simp only at g5;subst g5;rfl
             have cX:(#[bb,bI]:Array Oper).size=2:=rfl;rw [cX];simp only [List.range_succ,List.range_zero,aq5,aqP,wpOpsSIn];have ef:(#[bb,bI]:Array Oper)[0]? =some bb:=rfl;have aM:(#[bb,bI]:Array Oper)[1]? =some bI:=rfl;rw [ef];simp only [pj,aqu,K9];refine ⟨fun _ _=>trivial,?_⟩;cases B_:recoverD (nB::cs) with
             | none=>
               rw [B_] at h0;obtain ⟨J5,o_⟩:=h0;subst J5 o_;simp only [aM,hN,aqu,vg];exact ⟨fun _ _=>trivial,Ck⟩
             | some hh=>
               obtain ⟨v,abV⟩:=hh;rw [B_] at h0;obtain ⟨rfl,rfl⟩:=h0;simp only [aM,hN,aqu,vg];exact ⟨fun _ _=>trivial,Ck⟩
end
end
theorem WK:∀(xs:List V) (x:V),Hf (xs++[x])=some (xs,x)
 | [],x=>rfl
 | [y],x=>rfl
 | y::z::xs,x=>by have:=WK (z::xs) x;simp only [aqP] at this ⊢;simp only [Hf,this]
theorem RegRel0.putAt {E:Env} {au:Nat} {r:bQ} {t:Array Value} {ds:List Deferred} (k:RegRel0 E au r ⟨t,ds⟩) {d:Nat} (aY:d<au) (aB:d<=top) {v:V} {x:Value} (bE:Rel E v x):
 RegRel0 E au (T.put .bad v (aE d) r) ⟨t.setIfInBounds d x,ds⟩:=by
 refine ⟨by simp only [Array.size_setIfInBounds];exact k.size,fun j bU=>?_⟩;rw [T.ja];have cX:=k.size;simp only at cX;by_cases h:d=j
 . subst h;rw [aqw rfl];simp [aqM,cX,aY,bE]
 . rw [aqr (fun e=>h (lv e))];have:=k.ax j bU;simpa [aqM,aqF,h] using this
theorem V1 {E:Env} {au:Nat} {ds:List Deferred}:∀(bC:List Nat) (af:List V) (xs:List Value) (r:bQ) (t:Array Value),vM au bC=true->bm E af xs->RegRel0 E au r ⟨t,ds⟩->
 RegRel0 E au (yj bC af r) ⟨(bC.zip xs).foldl (fun t (p:Nat × Value)=>t.setIfInBounds p.1 p.2) t,ds⟩
 | [],af,xs,r,t,_,_,k=>by cases af<;>exact k
 | p::bC,[],xs,r,t,_,aD,k=>by simp only [bm] at aD;subst aD;exact k
 | p::bC,v::af,xs,r,t,ai,aD,k=>by obtain ⟨y,de,rfl,bg,aD⟩:=aD;simp only [vM,arG,aqi,aqS,aqE] at ai;simp only [yj,List.zip_cons_cons,List.foldl_cons];exact V1 bC af de _ _ ai.2 aD (k.putAt ai.1.1 ai.1.2 bg)
theorem al0 {E:Env} {au:Nat} {ds:List Deferred} {bC:Array Nat} {af:List V} {xs:List Value} {r:bQ} {t:Array Value} (ai:vM au bC.toList=true) (aD:bm E af xs) (k:RegRel0 E au r ⟨t,ds⟩):
 RegRel0 E au (yj bC.toList af r) ⟨(bC.zip xs.toArray).foldl (fun t (p:Nat × Value)=>t.setIfInBounds p.1 p.2) t,ds⟩:=by
 rw [<-Array.foldl_toList,Array.toList_zip];exact V1 bC.toList af xs r t ai aD k
theorem RegRel0.Zn {E:Env} {au:Nat} {r:bQ} {a:Act} (k:RegRel0 E au r a) (v:V):RegRel0 E au (T.put .bad v fF r) a:=
 ⟨k.size,fun t aB=>by rw [T.ja,aqr (fun e=>yb aB e.symm)];exact k.ax t aB⟩
section
variable {C:Ctx}
theorem adp (bO:eO C.P) (dt:C.P.follows .mixedOrders=true) {ex:jq} (hex:uC C.P ex) {f:FuncId} {args:List V} {h:ae} {al:Fr} {E:Env} {w:World} {xs:List Value} (aD:bm E args xs) (s:a6 al E h w) {R:Ending->World->Prop}
 (ai:sV al E R ((EM C.P f).run ex args h)):(∃fn,C.P.funcs[f]? =some fn/\fn.body.isSome=true)/\Calls C.P f xs.toArray w R:=by
 unfold EM at ai;cases aA:C.P.funcs[f]? with
 | none=>rw [aA] at ai;exact ai.elim
 | some fn=>
   rw [aA] at ai;simp only at ai;cases ah:fn.body with
   | none=>rw [ah] at ai;exact ai.elim
   | some c=>
     rw [ah] at ai;simp only at ai;refine ⟨⟨fn,rfl,by rw [ah];rfl⟩,?_⟩;cases eZ:Nat.ble fn.ntmps top with
     | false=>rw [eZ] at ai;exact ai.elim
     | true=>
       rw [eZ] at ai;simp only [aqo] at ai;rw [aqE] at eZ;unfold SS at ai;cases gU:Nat.ble args.length fn.ntmps with
       | false=>rw [gU] at ai;exact ai.elim
       | true=>
         rw [gU] at ai;simp only [aqo] at ai;rw [aqE] at gU;have k:=Sq aD gU eZ;have nc:=ach (C:=C) dt bO hex;refine pO.1 (callsIn_of_wp_marks (F:=aK none) (n:=0) aA ah trivial ?_);refine (hex fn.ntmps c none al _ h (.inl rfl) E _ w k s _ ?_).wp;cases aa:ex fn.ntmps c (om 0 args .e) h with
         | fail=>rw [aa] at ai;exact ai
         | cB v r U=>
           rw [aa] at ai;intro aw a1 w' x an av aH bP;exact JL (u:=some v) bO nc av ⟨x,aH,rfl⟩ bP (sV.up an ai)
         | ok e r U=>
           rw [aa] at ai;intro aw a1 w' an av aH;have main:sV al E R (finish (l8 C.P fn.ntmps fn.results.toList) r (oJ (Ej C.P ex) (T.get .bad fF r).list none U))->LeavesInM (aK none) 0 C.P fn a1.tmps R a1.defers .returning w':=by intro ai;exact JL (u:=none) bO nc av rfl aH (sV.up an ai)
           cases e with
           | normal=>exact main ai
           | ret=>exact main ai
           | exit id=>exact ai.elim
theorem EN (bO:eO C.P) (dt:C.P.follows .mixedOrders=true) (ha:o3 C) {ex:jq} (hex:uC C.P ex) {f:FuncId} {args:List V} {h:ae} {al:Fr} {E:Env} {w:World} {xs:List Value} (aD:bm E args xs) (s:a6 al E h w) {R:Ending->World->Prop}
 (ai:sV al E R ((w8 C f).run ex args h)):(∃fn,C.P.funcs[f]? =some fn/\fn.body.isSome=true)/\Calls C.P f xs.toArray w R:=by
 unfold w8 at ai;cases aI:C.C' f with
 | none=>rw [aI] at ai;exact adp bO dt hex aD s ai
 | some p=>
   rw [aI] at ai;simp only at ai;cases aa:p.run args h with
   | fail=>rw [aa] at ai;exact ai.elim
   | cB _ _=>rw [aa] at ai;exact ai.elim
   | val v ab=>
     rw [aa] at ai;obtain ⟨U,ad⟩:=ha.1 f p args h v ab aI aa;refine ⟨U,(ad al E w xs aD s).mono fun e w' aI=>?_⟩;obtain ⟨aw,x,rfl,an,av,aH⟩:=aI;exact ai aw x w' an av aH
theorem a6.loop {P:Program} {al:Fr} {E:Env} {h:ae} {w:World} (s:a6 al E h w) {b:aN} {l ed:AY} {p:iq} {o cm:Loop} (aJ:h.get b=.e2 l) (ai:E b=some p) (cU:al.w.heap.size<=p.bd) (ba:w.heap[p.bd]? =some (.loop o)) (aa:wB E ed cm):
 (setObj p.bd (.loop cm)).run P w=.ok () {w with heap:=w.heap.setIfInBounds p.bd (.loop cm)}/\a6 al E (h.set b (.e2 ed)) {w with heap:=w.heap.setIfInBounds p.bd (.loop cm)}:=by
 have mC:=(aql.1 ba).1;refine ⟨by simp only [setObj,Sem.run,ba],s.set (p:=p) (by rw [aJ];rfl) ai cU (by simp) (fun j bU=>?_) rfl rfl rfl (fun _ _ _ e=>by cases e) ?_⟩
 . simp only [aqF];rw [aqr (fun e=>bU e.symm)]
 . exact ⟨p,cm,ai,cU,by simp [mC],aa⟩
theorem run_getLoop {P:Program} {r:Nat} {w:World} {o:Loop} (ba:w.heap[r]? =some (.loop o)):(Instr.getLoop r).run P w=.ok o w:=by
 have:(getObj r).run P w=.ok (.loop o) w:=by simp only [getObj,Sem.run,ba]
 simp only [Instr.getLoop,Sem.run_bind,this,Result.andThen_ok,Sem.run_pure]
theorem ams {al:Fr} {E:Env} {h ab:ae} {w:World} {b:aN} {p:iq} {e:bV} {v:V} {P:Program} {R:Ending->World->Prop} {a:Act} (s:a6 al E h w) (ai:E b=some p) (he:Dh b e h=.val v ab)
 (c_:∀x w',Rel E v x->a6 al E ab w'->R (.returned x) w'):roundPost P p.bd R (toExit e) a w:=by
 unfold Dh at he;have ah:=s.at ai;cases aJ:h.get b<;>rw [aJ] at he ah<;>simp only at he<;>try (cases he;done)
 rename_i l;obtain ⟨p',o,hM,cU,ba,aa⟩:=ah;rw [ai] at hM;cases hM;have xp:=run_getLoop (P:=P) ba;obtain ⟨ca,b5,b6,eh,cK,eH,eM,e5⟩:=aa;cases e with
 | normal=>
   simp only [a8.val.injEq] at he;obtain ⟨rfl,rfl⟩:=he;obtain ⟨U,ad⟩:=s.loop (P:=P) (ed:=⟨0,none,l.d,l.au,l.r,l.bC,l.assign,l.body⟩) (cm:={o with state:=.ready,pending:=none}) aJ ai cU ba ⟨rfl,rfl,b6,eh,cK,eH,eM,e5⟩;refine ⟨.bool true,_,?_,c_ _ _ rfl ad⟩;simp only [Instr.endRound,Sem.run_bind,xp,Result.andThen_ok,Option.isNone_none,aqu,U,Sem.run_pure]
 | ret=>
   simp only [a8.val.injEq] at he;obtain ⟨rfl,rfl⟩:=he;obtain ⟨U,ad⟩:=s.loop (P:=P) (ed:=⟨2,some .ret,l.d,l.au,l.r,l.bC,l.assign,l.body⟩) (cm:={o with state:=.done,pending:=some .ret}) aJ ai cU ba ⟨rfl,rfl,b6,eh,cK,eH,eM,e5⟩;refine ⟨.bool false,_,?_,c_ _ _ rfl ad⟩;simp only [Instr.endRound,Sem.run_bind,xp,Result.andThen_ok,Option.isNone_some,aqk,aqs,U,Sem.run_pure]
 | exit id=>
   simp only [a8.val.injEq] at he;obtain ⟨rfl,rfl⟩:=he;obtain ⟨U,ad⟩:=s.loop (P:=P) (ed:=⟨2,some (.exit id),l.d,l.au,l.r,l.bC,l.assign,l.body⟩) (cm:={o with state:=.done,pending:=some (.exit id)}) aJ ai cU ba ⟨rfl,rfl,b6,eh,cK,eH,eM,e5⟩;refine ⟨.bool false,_,?_,c_ _ _ rfl ad⟩;simp only [Instr.endRound,Sem.run_bind,xp,Result.andThen_ok,Option.isNone_some,aqk,aqs,U,Sem.run_pure]
theorem amt {P:Program} {ex:jq} (hex:uC P ex) {al:Fr} {E:Env} {h ab:ae} {w:World} {args:List V} {xs:List Value} {b:aN} {p:iq} {v:V} (he:Dg ex args b h=.val v ab) (aD:bm E args xs) (s:a6 al E h w) (ai:E b=some p):
 ∃f tmps assign body,(Instr.yield p.bd xs.toArray).run P w=.ok (.round p.bd f tmps assign body) w/\
  RoundIn (aK none) 0 P p.bd f tmps assign body w fun e w'=>∃aw x,e=.returned x/\E.le aw/\Rel aw v x/\a6 al aw ab w':=by
 unfold Dg at he;have ah:=s.at ai;cases aJ:h.get b<;>rw [aJ] at he ah<;>simp only at he<;>try (cases he;done)
 rename_i l;obtain ⟨p',o,hM,cU,ba,aa⟩:=ah;rw [ai] at hM;cases hM;obtain ⟨ca,b5,b6,eh,cK,eH,eM,e5⟩:=aa;obtain ⟨aq,he⟩:=jX he;simp only [aqi,aqT] at aq;obtain ⟨bS,cJ,c3,iC⟩:=aq;have hlen:=aD.length;have afv:o.params.size=xs.length:=by rw [<-Array.length_toList,b6,hlen,bS]
 refine ⟨o.fn,(o.params.zip xs.toArray).foldl (fun tmps (t,a)=>tmps.setIfInBounds t a) o.tmps,o.assign,o.body,?_,?_⟩
 . simp only [Instr.yield,Sem.run_bind,run_getLoop ba,Result.andThen_ok];rw [aqr (by simp [afv])];rfl
 . rw [eh,cK];refine roundIn_of_wpIn (F:=aK none) trivial ?_;have dE:RegRel0 E l.au l.r ⟨o.tmps,[]⟩:=⟨eH,eM⟩;rw [<-b6] at cJ he;have c1:=(al0 cJ aD dE).Zn .bad;have k:gb E l.au (T.put .bad .bad fF (yj o.params.toList args l.r)) ⟨(o.params.zip xs.toArray).foldl (fun t (p:Nat × Value)=>t.setIfInBounds p.1 p.2) o.tmps,[]⟩:=⟨c1,by rw [T.ja,aqw rfl];simp [lD]⟩
   have afZ:=hex l.au l.assign (some p.bd) al _ h (.inr c3) E _ w k s (Exit.then (fun wQ yF=>∃Xw,(Instr.beginRound p.bd).run P yF=.ok () Xw/\
    l.body.wpIn (aK (some p.bd)) 0 P (roundPost P p.bd fun e w'=>∃aw x,e=.returned x/\E.le aw/\Rel aw v x/\a6 al aw ab w') wQ Xw) (fun _ _ _=>False))
   refine (afZ ?_).wp;cases ay:ex l.au l.assign (T.put .bad .bad fF (yj o.params.toList args l.r)) h with
   | fail=>rw [ay] at he;cases he
   | cB _ _ _=>rw [ay] at he;cases he
   | ok e al6 U=>
     rw [ay] at he;cases e<;>simp only at he<;>try (cases he;done)
     intro hE b7 b0 an av aH;unfold G1 at he;have js:=an _ _ ai;have mz:=aH.at js;cases Ts:U.get b<;>rw [Ts] at he mz<;>simp only at he<;>try (cases he;done)
     rename_i cV;obtain ⟨cc,bb,TL,xa,xq,xC⟩:=mz;rw [js] at TL;cases TL;obtain ⟨di,he⟩:=jX he;rw [aqT] at di;obtain ⟨t1,t2,t3,t4,t5,t6,t7,t8⟩:=xC;obtain ⟨g1,g2⟩:=aH.loop (P:=P) (ed:=⟨1,cV.iK,cV.d,cV.au,cV.r,cV.bC,cV.assign,cV.body⟩) (cm:={bb with state:=.busy}) Ts js xa xq ⟨rfl,t2,t3,t4,t5,t6,t7,t8⟩;refine ⟨{b0 with heap:=b0.heap.setIfInBounds p.bd (.loop {bb with state:=.busy})},?_,?_⟩
     . have K3:bb.state=.ready:=by rw [t1,di];rfl
       simp only [Instr.beginRound,Sem.run_bind,run_getLoop xq,Result.andThen_ok,g1,K3,Sem.run_pure]
     . refine (hex l.au l.body (some p.bd) al _ _ (.inr iC) hE _ _ av g2 _ ?_).wp;cases zK:ex l.au l.body al6 (U.set b (.e2 ⟨1,cV.iK,cV.d,cV.au,cV.r,cV.bC,cV.assign,cV.body⟩)) with
       | fail=>rw [zK] at he;cases he
       | cB _ _ _=>rw [zK] at he;cases he
       | ok bh apR ad=>
         rw [zK] at he;simp only at he;intro b1 a2 bn cp z2 z3;exact ams z3 (cp _ _ js) he fun x w' e8 hR=>⟨b1,x,rfl,an.trans cp,e8,hR⟩
theorem aa' (dt:C.P.follows .mixedOrders=true) (bO:eO C.P) (ha:o3 C) {ex:jq} (hex:uC C.P ex):gu C.P (rU C ex) where
 fn:=by
  intro al f args h v ab aA he E w xs aD s;unfold rU at he;rw [iE,aqr aA] at he;cases ay:C.ext f with
  | some p=>
    rw [ay] at he;simp only at he;cases aa:p.run args h with
    | fail=>rw [aa] at he;cases he
    | cB _ _=>rw [aa] at he;cases he
    | val v1 U=>
      rw [aa] at he;simp only [a8.Mc,a8.val.injEq] at he;obtain ⟨rfl,rfl⟩:=he;exact .inr (ha.2 f p args h _ _ ay aa al E w xs aD s)
  | none=>
  rw [ay] at he;simp only at he;exact .inl (EN bO dt ha hex aD s (by rw [he];exact fun aw x w' an av aH=>⟨aw,x,rfl,an,av,aH⟩))
 cB:=by
  intro al f args h v ab aA he E w xs aD s;unfold rU at he;rw [iE,aqr aA] at he;cases ay:C.ext f with
  | some p=>
    rw [ay] at he;simp only at he;cases aa:p.run args h<;>rw [aa] at he<;>cases he
  | none=>
  rw [ay] at he;simp only at he;exact EN bO dt ha hex aD s (by rw [he];exact fun aw x w' an av aH=>⟨aw,x,rfl,an,av,aH⟩)
 Xy:=by intro al args b h v ab he E w xs p aD s ai;unfold rU at he;rw [iE,aqw rfl] at he;unfold NM at he;rw [WK] at he;exact amt hex he aD s ai
 Xz:=by
  intro args h v ab he;unfold rU at he;rw [iE,aqw rfl] at he;have aM:∀b e h,Dh b e h≠.cB v ab:=by
   intro b e h he;unfold Dh at he
   split at he
   . cases e<;>cases he
   . cases he
  have bh:∀au c b r h,G1 ex au c b r h≠.cB v ab:=by
   intro au c b r h he;unfold G1 at he
   split at he
   case h_2=>cases he
   rename_i l aD;cases aq:Nat.beq l.st 0 with
   | false=>rw [aq] at he;cases he
   | true=>
     rw [aq] at he;simp only [aqo] at he
     split at he
     . exact aM _ _ _ he
     . cases he
  have cu:∀xs b h,Dg ex xs b h≠.cB v ab:=by
   intro xs b h he;unfold Dg at he
   split at he
   case h_2=>cases he
   rename_i l aD;cases aq:(Nat.beq xs.length l.bC.length&&(vM l.au l.bC&&(noMark l.assign&&noMark l.body))) with
   | false=>rw [aq] at he;cases he
   | true=>
     rw [aq] at he;simp only [aqo] at he
     split at he
     case h_2=>cases he
     rename_i e r U _;cases e<;>simp only at he<;>try (cases he;done)
     exact bh _ _ _ _ _ he
  unfold NM at he
  split at he
  case h_2=>cases he
  split at he
  case h_2=>cases he
  exact cu _ _ _ he
end
section
variable {C:Ctx}
theorem acW {P:Program} {e:bV} {Q:Exit->Act->World->Prop} {a:Act} {w:World} (h:Q (toExit e) a w):(JH e).wpIn (aK none) 0 P Q a w:=by
 cases e with
 | normal=>exact wpIn_skip h
 | exit id=>exact wpIn_exit h
 | ret=>exact wpIn_ret h
theorem amc (dt:C.P.follows .mixedOrders=true) (bO:eO C.P) (ha:o3 C) {ex:jq} (hex:uC C.P ex) {f:Operand} {bC:Array Tmp} {assign body:Code} {au:Nat} {al:Fr} {E:Env} {r:bQ} {h:ae} {a:Act} {w:World} {Q:Exit->Act->World->Prop}
 (k:gb E au r a) (s:a6 al E h w) (ai:yU al E au Q (Nx (fun g args h=>(w8 C g).run ex args h) (b9 f) bC.toList au assign body r h)):(Code.rangeFunc f bC assign body).wpIn (aK none) 0 C.P Q a w:=by
 unfold Nx at ai;have aA:=ez k.toRegRel0 f;generalize (b9 f).run r=yz at ai aA;cases yz<;>simp only at ai<;>try (exact ai.elim)
 rename_i g cs;rw [iE] at ai;by_cases aJ:g=dx
 . rw [aqw aJ] at ai;exact ai.elim
 . rw [aqr aJ] at ai;simp only [Rel] at aA;rcases aA with ⟨_,ff,dD,aD⟩ | ⟨Kt,_⟩
   case inr=>exact absurd Kt aJ
   refine wpIn_rangeFunc fun fn _=>?_;have f0:=s.fresh h.next (aqh _)
   obtain ⟨hE,xc⟩:∃hE,hE=E.put (aE h.next) ⟨w.heap.size,0,0⟩:=⟨_,rfl⟩;obtain ⟨b0,pj⟩:∃b0:World,b0={w with heap:=w.heap.push (.deferred (some []))}:=⟨_,rfl⟩;have B9:hE (aE h.next)=some ⟨w.heap.size,0,0⟩:=by rw [xc];unfold Env.put;rw [aqw rfl]
   have s1:a6 al hE (h.new .gg) b0:=by rw [xc,pj];refine s.alloc 0 ⟨⟨w.heap.size,0,0⟩,by unfold Env.put;rw [aqw rfl],s.frame.size,by simp⟩
   have qb:E.le hE:=by rw [xc];exact Env.nU f0
   have xF:b0.heap.size=w.heap.size+1:=by rw [pj];simp
   obtain ⟨o,aU⟩:∃o:Loop,o={state:=.ready,pending:=none,fn,tmps:=a.tmps,params:=bC,assign,body,defers:=w.heap.size}:=⟨_,rfl⟩;obtain ⟨b1,tj⟩:∃b1,b1=hE.put (aE (h.next+1)) ⟨b0.heap.size,0,0⟩:=⟨_,rfl⟩;obtain ⟨bn,hN⟩:∃bn:World,bn={b0 with heap:=b0.heap.push (.loop o)}:=⟨_,rfl⟩;have f1:hE (aE (h.next+1))=none:=s1.fresh (h.next+1) (aqh _);have nm:hE.le b1:=by rw [tj];exact Env.nU f1
   have B':b1 (aE (h.next+1))=some ⟨b0.heap.size,0,0⟩:=by rw [tj];unfold Env.put;rw [aqw rfl]
   have e2:wB b1 ⟨0,none,aE h.next,au,r,bC.toList,assign,body⟩ o:=by subst aU;exact ⟨rfl,rfl,rfl,rfl,rfl,k.size,fun t aB=>Rel.mono (qb.trans nm) _ _ (k.ax t aB),_,nm _ _ B9,rfl⟩
   have s2:a6 al b1 ((h.new .gg).new (.e2 ⟨0,none,aE h.next,au,r,bC.toList,assign,body⟩)) bn:=by rw [tj,hN];refine s1.alloc 0 ⟨⟨b0.heap.size,0,0⟩,o,by show hE.put (aE (h.next+1)) _ (aE (h.next+1))=_;unfold Env.put;rw [aqw rfl],by show al.w.heap.size<=b0.heap.size;rw [xF];have:=s.frame.size;omega,by simp,?_⟩;have:=e2;rw [tj] at this;exact this
   obtain ⟨je,q6⟩:∃je,je=b0.heap.size:=⟨_,rfl⟩;have bg:Rel b1 (.func dx [.ptr (aE (h.next+1)) 0]) (.func (.yield je) #[] #[]):=by simp only [Rel];exact .inr ⟨trivial,_,_,rfl,B',by rw [q6]⟩
   have qX:bm b1 (.func dx [.ptr (aE (h.next+1)) 0]::cs) (.func (.yield je) #[] #[]::ff.toList):=by simp only [bm];exact ⟨_,_,rfl,bg,bm.mono (qb.trans nm) _ _ aD⟩
   have cH:=EN (C:=C) bO dt ha hex (f:=g) qX s2 (R:=rangePost (aK none) 0 C.P je Q {a with defers:=[{target:=.collected w.heap.size,args:=#[]}]++a.defers});cases aa:(w8 C g).run ex (.func dx [.ptr (aE (h.next+1)) 0]::cs) ((h.new .gg).new (.e2 ⟨0,none,aE h.next,au,r,bC.toList,assign,body⟩)) with
   | fail=>rw [aa] at ai;exact ai.elim
   | cB _ _=>rw [aa] at ai;exact ai.elim
   | val v ab=>
     rw [aa] at ai cH;simp only at ai;obtain ⟨⟨EL,hL,ah⟩,aq⟩:=cH (by
      intro aw x w' an av aH;simp only [rangePost];unfold V8 at ai;have hA:=an _ _ B';have ah:=aH.at hA;cases xp:ab.get (aE (h.next+1))<;>rw [xp] at ai ah<;>simp only at ai<;>try (exact ai.elim)
      rename_i l;obtain ⟨p',cm,hM,cU,ba,KG⟩:=ah;rw [hA] at hM;cases hM;obtain ⟨t1,t2,t3,t4,t5,t6,t7,t8⟩:=KG;rw [iE] at ai;by_cases di:l.st=1
      . rw [aqw di] at ai;exact ai.elim
      . rw [aqr di] at ai;simp only at ba;rw [<-q6] at ba;have KM:(cm.state == LoopState.busy)=false:=by
         rw [t1]
         match tq:l.st with
         | 0=>rfl
         | 1=>exact absurd tq di
         | n+2=>rfl
        have mC:=(aql.1 ba).1
        let hi:World:={w' with heap:=w'.heap.setIfInBounds je (.loop {cm with state:=.exhausted})}
        have gx:(Instr.endLoop je).run C.P w'=.ok cm.pending hi:=by
         have q_:(setObj je (.loop {cm with state:=.exhausted})).run C.P w'=.ok () hi:=by simp only [setObj,Sem.run,ba];rfl
         simp only [Instr.endLoop,Sem.run_bind,run_getLoop ba,Result.andThen_ok,KM,aqk,aqs,q_,Sem.run_pure]
        have An:a6 al aw (ab.set (aE (h.next+1)) .dead) hi:=by refine aH.gone (p:=⟨b0.heap.size,0,0⟩) (by rw [xp];rfl) hA cU (by simp [hi]) (fun j bU=>?_) rfl rfl rfl;simp only at bU;simp only [hi,aqF];rw [aqr (fun e=>bU (by rw [<-e,q6]))]
        have fO:gb aw au (T.put .bad (.tuple (.ptr (aE h.next) 0::(T.get .bad fF r).list)) fF r) {a with defers:=[{target:=.collected w.heap.size,args:=#[]}]++a.defers}:=by
         refine ⟨⟨k.size,fun t aB=>?_⟩,?_⟩
         . rw [T.ja,aqr (fun e=>yb aB e.symm)];exact Rel.mono (qb.trans (nm.trans an)) _ _ (k.ax t aB)
         . rw [T.ja,aqw rfl];simp only [lD,mS,aqP,aq5];exact ⟨_,_,rfl,⟨_,an _ _ (nm _ _ B9),rfl⟩,(k.defers.mono (qb.trans (nm.trans an))).list⟩
        refine ⟨cm.pending,hi,gx,?_⟩;rw [t2];cases lS:l.iK with
        | none=>
          rw [lS] at ai;exact ai aw _ hi (qb.trans (nm.trans an)) fO An
        | some e=>
          rw [lS] at ai;exact acW (ai aw _ hi (qb.trans (nm.trans an)) fO An))
     refine ⟨je,[{target:=.collected w.heap.size,args:=#[]}],bn,{target:=.fn (.func g) ff,args:=#[]++#[.func (.yield je) #[] #[]]},bn,g,_,bn,?_,?_,fun _ _=>trivial,?_,fun h=>by simp at h,pO.2 aq⟩
     . subst aU hN pj;have he:=run_enterLoop_outer (P:=C.P) (w:=w) fn a.tmps bC assign body;rw [World.alloc,World.alloc] at he;simp only [Array.size_push] at q6 ⊢;rw [q6];exact he
     . simp only [resolve,dD,Deferred.ofValue,Sem.run_pure];simp [Act.eval]
     . simp only [invoke];have e:(#[]++#[Value.func (.yield je) #[] #[]]:Array Value)++ff=(Value.func (.yield je) #[] #[]::ff.toList).toArray:=by apply arX;simp
       rw [e];exact t' bO hL ah _ bn
theorem At {P:Program} {b:Frame} {a:Act} {k:List Item} {cs:List Frame} {w:World} {c:Code}:
 step P (lone (b.atR a (.code (.scope c)::k)) cs w)=.next (lone (b.atR a (.code c::.inScope c::k)) cs w):=
 step_lone_go (by simp [stepG,stepG.exec,Frame.atR])
theorem ane {P:Program} {b:Frame} {a:Act} {k:List Item} {cs:List Frame} {w:World} {c:Code}:
 step P (lone (b.atR a (.inScope c::k)) cs w)=.next (lone (b.atR a k) cs w):=
 step_lone_go (by simp [stepG,stepG.exec,Frame.atR])
theorem NP {P:Program} {rd:Option Nat} {c:Code} {Q:Exit->Act->World->Prop} {a:Act} {w:World} (h:c.wpIn (aK rd) 0 P (Exit.noGoto Q) a w):(Code.scope c).wpIn (aK rd) 0 P Q a w:=by
 intro b k cs kE ah aa;obtain ⟨e,wQ,yF,aI,jH⟩:=h b (.inScope c::k) cs kE ah aa;have ay:∀id,exitTo id (.inScope c::k)=exitTo id k:=fun id=>by simp [exitTo]
 cases e with
 | normal=>exact ⟨.normal,wQ,yF,aI,.head (qR _) At (StepsIn.trans jH (.one (qR _) ane))⟩
 | exit id=>exact ⟨.exit id,wQ,yF,aI,fun bG ar=>.head (qR _) At (jH.1 bG (by rw [ay];exact ar)),fun tx ar=>let ⟨k₁,U,ad⟩:=jH.2 tx (by rw [ay];exact ar);⟨k₁,U,.head (qR _) At ad⟩⟩
 | goto l=>exact aI.elim
 | ret=>exact ⟨_,wQ,yF,aI,.of_steps (.one (qR _) At) jH⟩
 | panic aoR=>exact ⟨_,wQ,yF,aI,.of_steps (.one (qR _) At) jH⟩
 | outgrown=>exact ⟨_,wQ,yF,aI,.of_steps (.one (qR _) At) jH⟩
theorem abE (dt:C.P.follows .mixedOrders=true) (bO:eO C.P) (ha:o3 C) {ex:jq} (hex:uC C.P ex) (au:Nat):∀c:Code,OY C.P au c ((ky C au c).run ex):=by
 have cH:=aa' dt bO ha hex;have eu:=aa9 (C:=C) ex;intro c
 induction c with
 | skip=>
   intro rd al r h aa E a w k s Q ai;exact wpIn_skip (ai E a w (Env.le.refl E) k s)
 | label l=>
   intro rd al r h aa E a w k s Q ai;exact wpIn_label (ai E a w (Env.le.refl E) k s)
 | exit id=>
   intro rd al r h aa E a w k s Q ai;exact wpIn_exit (ai E a w (Env.le.refl E) k s)
 | ret=>
   intro rd al r h aa E a w k s Q ai;exact wpIn_ret (ai E a w (Env.le.refl E) k s)
 | region id ops draw=>
   intro rd al r h aa E a w k s Q ai;have lift:∀x:pI,yU al E au Q (match x with | .ok bu ab=>.ok .normal bu ab | .cB v bu ab=>.cB v bu ab | .fail=>.fail)->o2 al E au (Q .normal) Q x:=by intro x ay;cases x<;>exact ay
   cases draw with
   | true=>
     simp only [ky,aqo,GY] at ai;exact acq dt bO cH eu (lift _ ai) k s
   | false=>
     simp only [ky,aqt,GY] at ai;refine wpIn_region ?_;have:=Vz (rd:=rd) (Q:=Q) bO cH eu ops.toList 0 (fun j=>by simp) (aa.imp (fun h=>h) fun h=>by simpa only [noMark,aqR] using h) E r h a w (lift _ ai) k s;rw [List.range_eq_range'];simpa using this
 | seq x y xI xJ=>
   intro rd al r h aa E a w k s Q ai;simp only [ky,Wy] at ai;have zA:rd=none\/noMark x=true:=aa.imp (fun h=>h) fun h=>by simp only [noMark,aqi] at h;exact h.1
   have K_:rd=none\/noMark y=true:=aa.imp (fun h=>h) fun h=>by simp only [noMark,aqi] at h;exact h.2
   refine wpIn_seq (xI rd al r h zA E a w k s _ ?_).wp;cases ay:(ky C au x).run ex r h with
   | fail=>rw [ay] at ai;exact ai
   | cB v ca U=>rw [ay] at ai;exact ai
   | ok aM ca U=>
     rw [ay] at ai;simp only at ai;intro aw a1 w' an av aH;cases aM with
     | normal=>exact (xJ rd al ca U K_ aw a1 w' av aH Q (ai.up an)).wp
     | exit id=>exact ai aw a1 w' an av aH
     | ret=>exact ai aw a1 w' an av aH
 | cond c x y xI xJ=>
   intro rd al r h aa E a w k s Q ai;simp only [ky,RO] at ai;have zA:rd=none\/noMark x=true:=aa.imp (fun h=>h) fun h=>by simp only [noMark,aqi] at h;exact h.1
   have K_:rd=none\/noMark y=true:=aa.imp (fun h=>h) fun h=>by simp only [noMark,aqi] at h;exact h.2
   have aq:=ez k.toRegRel0 c;cases bE:(b9 c).run r<;>rw [bE] at ai aq<;>simp only at ai<;>try (exact ai.elim)
   rename_i t;simp only [Rel] at aq;cases t with
   | true=>exact wpIn_cond_true aq (xI rd al r h zA E a w k s Q ai).wp
   | false=>exact wpIn_cond_false aq (xJ rd al r h K_ E a w k s Q ai).wp
 | block id x aT=>
   intro rd al r h aa E a w k s Q ai;simp only [ky,P5] at ai;refine wpIn_block (aT rd al r h (aa.imp (fun h=>h) fun h=>h) E a w k s _ ?_).wp;cases ay:(ky C au x).run ex r h with
   | fail=>rw [ay] at ai;exact ai
   | cB v ca U=>rw [ay] at ai;exact ai
   | ok aM ca U=>
     rw [ay] at ai;simp only at ai;intro aw a1 w' an av aH;cases aM with
     | normal=>exact ai aw a1 w' an av aH
     | ret=>exact ai aw a1 w' an av aH
     | exit i=>
       simp only [iE] at ai;simp only [toExit,Exit.inBlock];by_cases aG:i=id
       . rw [aqw aG] at ai ⊢;exact ai aw a1 w' an av aH
       . rw [aqr aG] at ai ⊢;exact ai aw a1 w' an av aH
 | loop x aT=>
   intro rd al r h aa E a w k s Q ai;simp only [ky,UQ] at ai;have zA:rd=none\/noMark x=true:=aa.imp (fun h=>h) fun h=>h;intro b dL cs kE;cases ay:(ky C au x).run ex r h with
   | fail=>rw [ay] at ai;exact ai.elim
   | cB v ca U=>
     rw [ay] at ai;have body:=(aT rd al r h zA E a w k s (fun dP a1 w'=>∃y,dP=.panic y/\Q dP a1 w') (by rw [ay];exact fun aw a1 w' x an av aH bP=>⟨_,rfl,ai aw a1 w' x an av aH bP⟩)).wp b (.inLoop x::dL) cs kE trivial (G0 _);obtain ⟨bh,a2,bn,⟨y,rfl,q⟩,jH⟩:=body;exact ⟨_,a2,bn,q,.pass (x:=.inLoop x) rfl (fun _ _=>.inl (by simp)) jH⟩
   | ok aM ca U=>
     rw [ay] at ai;simp only at ai;have body:=(aT rd al r h zA E a w k s
      (fun dP a1 w'=>dP=toExit aM/\∃aw,E.le aw/\gb aw au ca a1/\a6 al aw U w') (by rw [ay];exact fun aw a1 w' an av aH=>⟨rfl,aw,an,av,aH⟩)).wp b (.inLoop x::dL) cs kE trivial (G0 _)
     obtain ⟨bh,a2,bn,⟨rfl,b1,an,av,aH⟩,jH⟩:=body;cases aM with
     | normal=>
       have next:=hex au (.loop x) rd al ca U aa b1 a2 bn av aH Q (ai.up an)
       obtain ⟨cu,a3,gM,cc,cy⟩:=next b dL cs kE
       exact ⟨cu,a3,gM,cc,.of_steps (StepsIn.trans jH (.one (qR _) stepR_inLoop)) cy⟩
     | exit id=>exact ⟨.exit id,a2,bn,ai b1 a2 bn an av aH,.pass (x:=.inLoop x) rfl (fun _ _=>.inl (by simp)) jH⟩
     | ret=>exact ⟨.ret,a2,bn,ai b1 a2 bn an av aH,.pass (x:=.inLoop x) rfl (fun _ _=>.inl (by simp)) jH⟩
 | scope x aT=>
   intro rd al r h aa E a w k s Q ai;simp only [ky] at ai;refine NP (aT rd al r h (aa.imp (fun h=>h) fun h=>h) E a w k s _ ?_).wp;cases ay:(ky C au x).run ex r h with
   | fail=>rw [ay] at ai;exact ai
   | cB v ca U=>rw [ay] at ai;exact ai
   | ok aM ca U=>
     rw [ay] at ai;intro aw a1 w' an av aH;have:=ai aw a1 w' an av aH;cases aM<;>exact this
 | rangeFunc f bC x y _ _=>
   intro rd al r h aa E a w k s Q ai;rcases aa with rfl | aa
   case inr=>cases aa
   simp only [ky] at ai;exact amc dt bO ha hex k s ai
 | goto l=>intro rd al r h aa E a w k s Q ai;exact ai.elim
 | refuse an6=>intro rd al r h aa E a w k s Q ai;exact ai.elim
end
section
variable {C:Ctx}
theorem Sy (dt:C.P.follows .mixedOrders=true) (bO:eO C.P) (ha:o3 C):∀n,uC C.P (exec C n)
 | 0=>fun au c rd al r h aa E a w k s Q ai=>ai.elim
 | n+1=>fun au c=>abE dt bO ha (Sy dt bO ha n) au c
theorem Eb (dt:C.P.follows .mixedOrders=true) (bO:eO C.P) (ha:o3 C) {n:Nat} {f:FuncId} {args:List V} {h ab:ae} {v:V} (aA:Nat.beq f dx=false) (ay:C.ext f=none) (he:qL C n f args h=.val v ab)
 {al:Fr} {E:Env} {w:World} {xs:List Value} (aD:bm E args xs) (s:a6 al E h w):
 (∃fn,C.P.funcs[f]? =some fn/\fn.body.isSome=true)/\Calls C.P f xs.toArray w fun e w'=>∃aw x,e=.returned x/\E.le aw/\Rel aw v x/\a6 al aw ab w':=by
 unfold qL rU at he;rw [aA,aqt,ay] at he;simp only at he;exact EN bO dt ha (Sy dt bO ha n) aD s (by rw [he];exact fun aw x w' an av aH=>⟨aw,x,rfl,an,av,aH⟩)
theorem Dj (w:World) (hw:Lay.ok w):a6 ⟨w,fun _=>none⟩ (fun _=>none) ae.empty w:=by
 refine ⟨fun b _=>?_,fun _ _ h=>(by cases h),(fun b b2 p p' _ _ h=>by cases h),fun _ _=>rfl,Below.refl _ _,hw,(fun _ _ _ _ _ _ h=>by cases h)⟩;have:ae.empty.get b=.dead:=by simp [ae.get,ae.empty]
 rw [this];trivial
theorem anM (dt:C.P.follows .mixedOrders=true) (bO:eO C.P) {w:World} (hw:Lay.ok w) (ha:o3 C) {n:Nat} {f:FuncId} (aA:Nat.beq f dx=false) (ay:C.ext f=none) (h:yx C n f []=true):
 Calls C.P f #[] w fun e w'=>e=.returned (.bool true)/\Below w.heap.size w w':=by
 unfold yx at h;cases aq:qL C n f [] ae.empty with
 | fail=>rw [aq] at h;cases h
 | cB _ _=>rw [aq] at h;cases h
 | val v ba=>
   rw [aq] at h;simp only at h;cases v<;>simp only at h<;>try (cases h;done)
   subst h;obtain ⟨_,kQ⟩:=Eb dt bO ha aA ay aq (al:=⟨w,fun _=>none⟩) (E:=fun _=>none) (w:=w) (xs:=[]) rfl (Dj w hw);refine kQ.mono fun e w' aI=>?_;obtain ⟨aw,x,rfl,_,av,aH⟩:=aI;simp only [Rel] at av;subst av;exact ⟨rfl,aH.frame⟩
end
end
section
open Go Go.RowKit Go.ChangeShapes Go.WideShapes
variable [Lay]
section
variable {H:Type} {enc:TypeId × Value->H} {P:Program}
end
end
section
open Go Go.RowKit
variable [Lay]
theorem a6.below {al:Fr} {E:Env} {h:ae} {w w':World} (s:a6 al E h w) (ah:Below w.heap.size w w'):a6 al E h w':=by
 have cX:al.w.heap.size<=w.heap.size:=s.frame.size;have gy:∀(k:Nat) (o:Obj),w.heap[k]? =some o->w'.heap[k]? =some o:=by
  intro k o ar;rw [ah.block k,ar];by_cases a':k<w.heap.size
  . exact a'
  . rw [arM (by omega)] at ar;cases ar
 refine ⟨fun b ai=>?_,s.qm,s.inj,s.fresh,s.frame.trans (ah.mono cX),s.laid,s.base⟩;have:=s.bd b ai;cases ar:h.get b<;>rw [ar] at this<;>simp only [hT] at this ⊢
 . obtain ⟨an,p,c,el,cf,av,aH,bP,cE⟩:=this;exact ⟨an,p,c,el,cf,av,aH,gy _ _ bP,cE⟩
 . obtain ⟨an,p,c,el,cf,av,aH,bP,cE⟩:=this;exact ⟨an,p,c,el,cf,av,aH,gy _ _ bP,cE⟩
 . obtain ⟨p,an,av,aH,bP⟩:=this;exact ⟨p,an,av,aH,gy _ _ bP⟩
 . obtain ⟨p,a,an,av,aH,bP⟩:=this;exact ⟨p,a,an,av,gy _ _ aH,bP⟩
 . obtain ⟨p,o,an,av,aH,bP⟩:=this;exact ⟨p,o,an,av,gy _ _ aH,bP⟩
 . obtain ⟨p,an,av,aH⟩:=this;exact ⟨p,an,av,gy _ _ aH⟩
 . obtain ⟨p,a,c,l,an,av,aH,bP⟩:=this;exact ⟨p,a,c,l,an,av,gy _ _ aH,bP⟩
 . obtain ⟨p,m,a,an,av,aH,bP,cE⟩:=this;exact ⟨p,m,a,an,av,aH,gy _ _ bP,cE⟩
theorem aiv {P:Program} {f:FuncId} {args:List V} {v:V} {h:ae} (H:∀E xs w,Lay.ok w->bm E args xs->Calls P f xs.toArray w fun e w'=>∃x,e=.returned x/\Rel E v x/\Below w.heap.size w w')
 (al:Fr) (E:Env) (w:World) (xs:List Value) (ay:bm E args xs) (s:a6 al E h w):Calls P f xs.toArray w fun e w'=>∃aw x,e=.returned x/\E.le aw/\Rel aw v x/\a6 al aw h w':=by
 refine (H E xs w (Lay.gy s.laid s.frame) ay).mono fun e w' q=>?_;obtain ⟨x,rfl,bE,ah⟩:=q;exact ⟨E,x,rfl,Env.le.refl E,bE,s.below ah⟩
theorem acY {P:Program} {f:FuncId} {fn:Func} {e:Array Value->Sem Value} (aA:P.funcs[f]? =some fn) (aL:(fn.name == "runtime.NumGoroutine")=false) (ah:fn.body.isNone=true) (U:Extern.findNext fn=none) (ad:Extern.find fn=some e)
 {xs:Array Value} {x:Value} {w:World} (aa:(e xs).run P w=.ok x w):(callFunc f xs).run P w=.ok (.value x) w:=by
 simp only [callFunc,Sem.run_bind,run_program,Result.andThen_ok,aA];rw [aqr (by rw [aL];simp),aqw ah];simp only [Sem.run_bind,U,ad];have hm:(mark (.extern f)).run P w=.ok () w:=rfl;rw [hm];simp only [Result.andThen_ok,aa,Sem.run_pure]
def Ct (c:Nat):List UInt8->Nat->Int
 | [],_=>-1
 | b::l,i=>bif Nat.beq b.toNat c then .ofNat i else Ct c l (i+1)
theorem Ui (c:Nat) (aq:c<256):∀(l:List UInt8) (i:Nat),Ct c l i=if Lib.indexByte l c.toUInt8=-1 then -1 else Lib.indexByte l c.toUInt8+i
 | [],i=>by simp [Ct,Lib.indexByte]
 | b::l,i=>by
   have kR:=Lib.indexByte_ge l c.toUInt8;have u7:(b.toNat=c)↔(b == c.toUInt8)=true:=by
    rw [arO,<-UInt8.toNat_inj];have:c.toUInt8.toNat=c:=by show c % 256=c;omega
    rw [this]
   have e:Lib.indexByte (b::l) c.toUInt8=if (b == c.toUInt8)=true then 0 else if (Lib.indexByte l c.toUInt8 == -1)=true then -1 else Lib.indexByte l c.toUInt8+1:=rfl;simp only [Ct,Ui c aq l (i+1),iE];by_cases h:b.toNat=c
   . rw [aqw (u7.1 h)] at e;rw [aqw h,e];simp
   . rw [aqr (fun e=>h (u7.2 e))] at e;rw [aqr h];by_cases ad:Lib.indexByte l c.toUInt8=-1
     . rw [ad] at e;simp only [beq_self_eq_true,aqu] at e;simp [ad,e]
     . have aC:(Lib.indexByte l c.toUInt8 == -1)=false:=by simpa using ad
       rw [aC] at e;simp only [aqk,aqs] at e;rw [aqr ad,e,aqr (by omega)];omega
def preB:List UInt8->List UInt8->Bool
 | [],_=>true
 | _::_,[]=>false
 | a::x,b::y=>bif Nat.beq a.toNat b.toNat then preB x y else false
theorem Nj:∀(x y:List UInt8),preB x y=x.isPrefixOf y
 | [],y=>by cases y<;>rfl
 | _::_,[]=>rfl
 | a::x,b::y=>by
   simp only [preB,List.isPrefixOf,iE,Nj x y];by_cases h:a.toNat=b.toNat
   . have:a=b:=UInt8.toNat_inj.1 h;subst this;simp
   . have:(a == b)=false:=by
      rw [arx];exact fun e=>h (by rw [e])
     rw [aqr h,this];rfl
def hasB:List UInt8->List UInt8->Bool
 | [],sub=>preB sub []
 | b::l,sub=>bif preB sub (b::l) then true else hasB l sub
theorem Tc:∀(s sub:List UInt8),hasB s sub=Lib.contains s sub
 | [],sub=>by simp only [hasB,Nj,Lib.contains,Lib.index];cases sub<;>simp
 | b::l,sub=>by
   simp only [hasB,Nj];have aT:=Tc l sub;unfold Lib.contains at aT ⊢;unfold Lib.index;cases h:sub.isPrefixOf (b::l) with
   | true=>simp
   | false=>
     simp only [aqt,aqk,aqs,aT];have kR:=Lib.index_ge l sub;cases ad:(Lib.index l sub == -1) with
     | true=>
       have:Lib.index l sub=-1:=by simpa using ad
       simp [this]
     | false=>
       have:Lib.index l sub≠-1:=by simpa using ad
       simp only [aqk,aqs];rw [arc,aqy,aqy];omega
def Ja:wE:=⟨fun args h=>match args with
 | [x,y]=>(match x with
   | .str s=>(match y with
     | .str sub=>bif Nat.ble s.length 100000 then .val (.bool (hasB s sub)) h else .fail
     | _=>.fail)
   | _=>.fail)
 | _=>.fail⟩
theorem abL {args:List V} {h ab:ae} {v:V} (he:Ja.run args h=.val v ab):∃s sub,args=[.str s,.str sub]/\s.length<=100000/\v=.bool (Lib.contains s sub)/\ab=h:=by
 simp only [Ja] at he
 split at he
 case h_2=>cases he
 split at he
 case h_2=>cases he
 split at he
 case h_2=>cases he
 obtain ⟨aq,U⟩:=jX he;simp only [a8.val.injEq] at U;obtain ⟨rfl,rfl⟩:=U;exact ⟨_,_,rfl,aqQ aq,by rw [Tc],rfl⟩
def FB:wE:=⟨fun args h=>match args with
 | [x,y]=>(match x with
   | .str s=>(match y with
     | .int k c=>bif pR k .u8&&(Int.leB 0 c&&Nat.blt c.toNat 256) then .val (.int .i64 (Ct c.toNat s 0)) h else .fail
     | _=>.fail)
   | _=>.fail)
 | _=>.fail⟩
theorem ago {args:List V} {h ab:ae} {v:V} (he:FB.run args h=.val v ab):∃s c,args=[.str s,.int .u8 c]/\v=.int .i64 (Lib.indexByte s c.toNat.toUInt8)/\ab=h:=by
 simp only [FB] at he
 split at he
 case h_2=>cases he
 split at he
 case h_2=>cases he
 split at he
 case h_2=>cases he
 rename_i s _ k c;obtain ⟨aq,U⟩:=jX he;simp only [aqi,aqS] at aq;have ar:=tg aq.1;subst ar;simp only [a8.val.injEq] at U;obtain ⟨rfl,rfl⟩:=U;refine ⟨s,c,rfl,?_,rfl⟩;rw [Ui _ aq.2.2];by_cases h:Lib.indexByte s c.toNat.toUInt8=-1
 . rw [aqw h,h]
 . rw [aqr h];simp
theorem agn {P:Program} {f:FuncId} {fn:Func} (aA:P.funcs[f]? =some fn) (aL:(fn.name == "runtime.NumGoroutine")=false) (ah:fn.body.isNone=true) (U:Extern.findNext fn=none) (ad:Extern.find fn=some Extern.BytealgIndexByte.indexByte)
 {args:List V} {h ab:ae} {v:V} (he:FB.run args h=.val v ab) (al:Fr) (E:Env) (w:World) (xs:List Value) (ay:bm E args xs) (s:a6 al E h w):
 ∃aw x w',(callFunc f xs.toArray).run P w=.ok (.value x) w'/\E.le aw/\Rel aw v x/\a6 al aw ab w':=by
 obtain ⟨t,c,rfl,rfl,rfl⟩:=ago he;obtain ⟨y,de,rfl,an,z,rC,rfl,av,rfl⟩:=ay;simp only [Rel] at an av;subst an av;exact ⟨E,_,w,acY aA aL ah U ad (Lib.run_indexByteString _ _ _),Env.le.refl E,by simp [Rel],s⟩
theorem amn {H:Type} {enc:TypeId × Value->H} {a:Assume} {C:Checked} {os:Os} {f:FuncId} {fn:Func} {s:ChangeSpec} {conds:List PathCond} {apart fresh handsOn again:Bool} {X:World->Array Value->Prop}
 (dD:∀(w w':World) (args:Array Value),w.heap=w'.heap->X w args->X w' args)
 (own:ownKnob C.prog.godebug=none) (started:os.Started) (aj2:C.prog.inits.idxOf? f=none) (hL:C.prog.funcs[f]? =some fn)
 (witness:∃(w:World) (tape:Tape) (i:Input),w.os=os/\(w.forCall tape i).Shaped C.prog/\i.vars=[]/\Input.okWide C.prog (w.forCall tape i) .any w.heap.size f i/\
   ((s.pre enc C.prog fn conds apart (w.forCall tape i).memory i.args/\X (w.forCall tape i).memory i.args)/\sizedMet enc C.prog fn (OpenSpec.ofChange s) apart (w.forCall tape i).memory i.args)/\a.holds C.prog (lone (Frame.enter C.prog f i.args .normal) [] (w.forCall tape i)))
 (abO:∀(W:World) (base:Nat) (args:Array Value) (ds gs:List (DataW H)) (before:List MemPlace),
   (∀(j:Nat) t v,fn.params[j]? =some t->args[j]? =some v->Value.okWide C.prog W .any base t v)->
   DataW.Whole enc C.prog fn.params.toList s.vars apart W args.toList ds gs before->
   X W args->W.ShapedOpen C.prog->
   Calls C.prog f args W fun e qG=>∃v,e=.returned v/\s.post enc C.prog fn apart fresh handsOn again W args v qG):
 ReturnsInHanded a C os f .any (fun w args=>(s.pre enc C.prog fn conds apart w args/\X w args)/\sizedMet enc C.prog fn (OpenSpec.ofChange s) apart w args) (s.post enc C.prog fn apart fresh handsOn again):=by
 refine returnsInHanded_of_calls own started aj2 witness ?_;intro w tape i _ Ce _ bT p5 apd;obtain ⟨_,_,_,EL,aeQ,_,_,_,_,Ci⟩:=bT;have e:EL=fn:=arB (aeQ.symm.trans hL);subst e;obtain ⟨⟨⟨ds,gs,before,hw,aq⟩,ay⟩,bK⟩:=p5;have p7:=DataW.Whole.of_heap (w':=w.forCall tape i) (by rfl) hw;refine (abO (w.forCall tape i) w.heap.size i.args ds gs before Ci p7 (dD _ _ _ (by rfl) ay) Ce).mono fun e qG ⟨v,he,ai⟩=>?_;subst he;exact ChangeSpec.post_blind ai
def V.plain:V->Bool
 | .bool _ | .int _ _ | .str _=>true
 | _=>false
theorem Rel.plain {E aw:Env} {v:V} {x:Value} (ai:v.plain=true) (h:Rel E v x):Rel aw v x:=by
 cases v<;>simp only [V.plain] at ai<;>first
  | (cases ai;done)
  | (simp only [Rel] at h ⊢;exact h)
theorem bm.plain {E aw:Env}:∀{af:List V} {xs:List Value},af.all V.plain=true->bm E af xs->bm aw af xs
 | [],xs,_,h=>h
 | v::af,xs,ai,h=>by simp only [arG,aqi] at ai;obtain ⟨y,de,rfl,U,ad⟩:=h;exact ⟨y,de,rfl,Rel.plain ai.1 U,bm.plain ai.2 ad⟩
def DY (args:List V):List (List V)->Bool
 | []=>false
 | l::ls=>bif uW zb args l then true else DY args ls
theorem PF {args:List V}:∀{ls:List (List V)},DY args ls=true->args ∈ ls
 | [],h=>by cases h
 | l::ls,h=>by
   simp only [DY] at h;cases U:uW zb args l with
   | true=>
     have:=Ey (fun a b=>JD) U;subst this;simp
   | false=>
     rw [U] at h;exact aq2 _ (PF h)
def I4 (ls:List (List V)):wE:=⟨fun args h=>bif DY args ls then .val (.bool true) h else .fail⟩
theorem RM {C:Ctx} (dt:C.P.follows .mixedOrders=true) (bO:eO C.P) (ha:o3 C) {f:FuncId} (aA:Nat.beq f dx=false) (ay:C.ext f=none) {ls:List (List V)}
 (da:∀l ∈ ls,l.all V.plain=true/\∃n,yx C n f l=true) {args:List V} {h ab:ae} {v:V} (he:(I4 ls).run args h=.val v ab):
 (∃fn,C.P.funcs[f]? =some fn/\fn.body.isSome=true)/\∀(al:Fr) E w xs,bm E args xs->a6 al E h w->
  Calls C.P f xs.toArray w fun e w'=>∃aw x,e=.returned x/\E.le aw/\Rel aw v x/\a6 al aw ab w':=by
 obtain ⟨aq,U⟩:=jX he;simp only [a8.val.injEq] at U;obtain ⟨rfl,rfl⟩:=U;obtain ⟨hA,n,aB⟩:=da _ (PF aq);unfold yx at aB;cases cH:qL C n f args ae.empty with
 | fail=>rw [cH] at aB;cases aB
 | cB _ _=>rw [cH] at aB;cases aB
 | val v ba=>
   rw [cH] at aB;simp only at aB;cases v<;>simp only at aB<;>try (cases aB;done)
   subst aB;have main:∀(w:World) (xs:List Value),Lay.ok w->bm (fun _=>none) args xs->(∃fn,C.P.funcs[f]? =some fn/\fn.body.isSome=true)/\Calls C.P f xs.toArray w fun e w'=>∃aw x,e=.returned x/\Env.le (fun _=>none) aw/\Rel aw (.bool true) x/\a6 ⟨w,fun _=>none⟩ aw ba w':=
    fun w xs hw nj=>Eb dt bO ha aA ay cH nj (Dj w hw)
   refine ⟨?_,fun al E w xs nj s=>?_⟩
   . -- a body there is
     have ah:∃fn,C.P.funcs[f]? =some fn/\fn.body.isSome=true:=by
      unfold qL rU at cH;rw [aA,aqt,ay] at cH;simp only [w8] at cH;cases aI:C.C' f with
      | some p=>
        rw [aI] at cH;simp only at cH;cases aa:p.run args ae.empty with
        | fail=>rw [aa] at cH;cases cH
        | cB _ _=>rw [aa] at cH;cases cH
        | val v1 U=>exact (ha.1 f p args _ _ _ aI aa).1
      | none=>
        rw [aI] at cH;simp only [EM] at cH;cases hL:C.P.funcs[f]? with
        | none=>rw [hL] at cH;cases cH
        | some fn=>
          rw [hL] at cH;simp only at cH;cases zo:fn.body with
          | none=>rw [zo] at cH;cases cH
          | some c=>exact ⟨fn,rfl,by rw [zo];rfl⟩
     exact ah
   . refine (main w xs (Lay.gy s.laid s.frame) (bm.plain hA nj)).2.mono fun e w' aI=>?_;obtain ⟨aw,x,rfl,_,av,aH⟩:=aI;exact ⟨E,x,rfl,Env.le.refl E,Rel.plain rfl av,s.below aH.frame⟩
end
section
open Go Go.RowKit Go.Maps Go.Sort Go.Shelf
open Go.Proofs (encStr)
variable [Lay]
def uT (clock:Nat):Nat->List c9->Bool
 | _,[]=>true
 | aZ,m::ms=>Nat.ble aZ m.born&&Nat.blt m.born clock&&uT clock (m.born+1) ms
theorem ql {al:Fr} {E:Env} {h:ae} {w:World} (s:a6 al E h w) {b:aN} {q:iq} (aU:(h.get b).own=true) (aI:E b=some q):q.bd<w.heap.size:=by
 have ah:=s.at aI;cases aJ:h.get b with
 | dead=>rw [aJ] at aU;cases aU
 | view n cs=>rw [aJ] at aU;cases aU
 | cells n cs c' st=>rw [aJ] at ah;obtain ⟨_,fb,c,el,cf,e,_,ba,_⟩:=ah;rw [e] at aI;cases aI;exact (aql.1 ba).1
 | iter st pos=>rw [aJ] at ah;obtain ⟨fb,e,_,_,ba⟩:=ah;rw [e] at aI;cases aI;exact (aql.1 ba).1
 | mp es clock=>rw [aJ] at ah;obtain ⟨fb,a,e,_,ba,_⟩:=ah;rw [e] at aI;cases aI;exact (aql.1 ba).1
 | e2 l=>rw [aJ] at ah;obtain ⟨fb,o,e,_,ba,_⟩:=ah;rw [e] at aI;cases aI;exact (aql.1 ba).1
 | gg=>rw [aJ] at ah;obtain ⟨fb,e,_,ba⟩:=ah;rw [e] at aI;cases aI;exact (aql.1 ba).1
 | jf es=>rw [aJ] at ah;obtain ⟨fb,a,c,l,e,_,ba,_⟩:=ah;rw [e] at aI;cases aI;exact (aql.1 ba).1
 | kb src since seen last=>rw [aJ] at ah;obtain ⟨fb,m,a,e,_,_,ba,_⟩:=ah;rw [e] at aI;cases aI;exact (aql.1 ba).1
end
section
open Go Go.RowKit
variable [Lay]
def yu (cs:T V) (off:Nat):Nat->Option (List (List UInt8))
 | 0=>some []
 | n+1=>(match T.get .bad (aE off) cs with
   | .str s=>(match yu cs (off+1) n with
     | some l=>some (s::l)
     | none=>none)
   | _=>none)
def WS (r:List UInt8) (h:ae):a8:=bif Nat.ble r.length 1000000 then .val (.str r) h else .fail
def FH (h:ae) (b:aN) (off len:Nat) (sep:List UInt8):a8:=
 match h.get b with
 | .cells n cs _ _=>bif Nat.ble (off+len) n&&Nat.ble len 1000000 then (match yu cs off len with
   | some l=>WS (Lib.join l sep) h
   | none=>.fail) else .fail
 | _=>.fail
def Lz:wE:=⟨fun args h=>match args with
 | [x,y]=>(match y with
   | .str sep=>(match x with
     | .cn=>.val (.str []) h
     | .slice b off len _=>FH h b off len sep
     | .fp b off len _=>FH h b off len sep
     | _=>.fail)
   | _=>.fail)
 | _=>.fail⟩
structure HT (P:Program) (f:FuncId):Prop where
 many:∀(uR o c:Nat) (xs:List ByteArray) (sep:ByteArray) (w:World),(∀(j:Nat) x,xs[j]? =some x->w.cell? ⟨uR,o+j,none⟩=some (.string x))->uR<w.heap.size->xs.length<=140737488355328->xs.length<=c->
  (Lib.join (xs.map (·.data.toList)) sep.data.toList).length<=140737488355328->
  Calls P f #[.slice (some ⟨uR,o,none⟩) xs.length c,.string sep] w fun e w'=>e=.returned (.string ⟨(Lib.join (xs.map (·.data.toList)) sep.data.toList).toArray⟩)/\Below w.heap.size w w'
 aj5:∀(a:Option Addr) (c:Nat) (sep:ByteArray) (w:World),Calls P f #[.slice a 0 c,.string sep] w fun e w'=>e=.returned (.string ⟨#[]⟩)/\w'=w
theorem WT {cs:T V}:∀{n off:Nat} {l:List (List UInt8)},yu cs off n=some l->l.length=n/\∀j s,l[j]? =some s->T.get .bad (aE (off+j)) cs=.str s
 | 0,off,l,h=>by simp only [yu,aqj] at h;subst h;exact ⟨rfl,fun j s h=>by simp at h⟩
 | n+1,off,l,h=>by
   simp only [yu] at h
   split at h
   case h_2=>cases h
   rename_i s az;cases aa:yu cs (off+1) n with
   | none=>rw [aa] at h;cases h
   | some ed=>
     rw [aa] at h;simp only [aqj] at h;subst h;obtain ⟨g1,g2⟩:=WT aa;refine ⟨by simp [g1],fun j t aB=>?_⟩;cases j with
     | zero=>
       simp only [aqz,aqj] at aB;subst aB;exact az
     | succ j=>
       have:=g2 j t (by simpa using aB);rw [show off + (j+1)=off+1+j from by omega];exact this
theorem Uj {P:Program} {f:FuncId} (K:HT P f) {h ab:ae} {b:aN} {off len:Nat} {sep:List UInt8} {v:V} (he:FH h b off len sep=.val v ab) {al:Fr} {E:Env} {w:World} (s:a6 al E h w) {p:iq} (ai:E b=some p) {c:Nat} (aq:len<=c):
 Calls P f #[.slice (some ⟨p.bd,p.base+off,none⟩) len c,.string ⟨⟨sep⟩⟩] w fun e w'=>∃aw x,e=.returned x/\E.le aw/\Rel aw v x/\a6 al aw ab w':=by
 unfold FH at he
 split at he
 case h_2=>cases he
 rename_i n cs c' st oz;obtain ⟨BP,he⟩:=jX he;simp only [aqi,aqE] at BP;cases aD:yu cs off len with
 | none=>rw [aD] at he;cases he
 | some L=>
   rw [aD] at he;simp only [WS] at he;obtain ⟨ae4,he⟩:=jX he;rw [aqE] at ae4;simp only [a8.val.injEq] at he;obtain ⟨rfl,rfl⟩:=he;obtain ⟨g1,g2⟩:=WT aD;have ah:=s.at ai;rw [oz] at ah;obtain ⟨_,p',RG,el,cf,aM,_,xr,_,_,_,Tk⟩:=ah;rw [ai] at aM;cases aM;have a':=(aql.1 xr).1;have p3:(L.map fun x=>(⟨⟨x⟩⟩:ByteArray)).map (·.data.toList)=L:=by rw [List.map_map];exact (List.map_congr_left (fun _ _=>rfl)).trans (List.map_id L)
   have cells:∀(j:Nat) (x:ByteArray),(L.map fun x=>(⟨⟨x⟩⟩:ByteArray))[j]? =some x->w.cell? ⟨p.bd,p.base+off+j,none⟩=some (.string x):=by
    intro j x ay;rw [aq3] at ay;cases dU:L[j]? with
    | none=>rw [dU] at ay;cases ay
    | some t=>
      rw [dU] at ay;cases ay;have bU:j<len:=by rw [<-g1];exact (aqD.1 dU).1
      have cX:p.base+off+j<RG.size:=by have:=Tk.1;omega
      have aa:=Tk.2 (off+j) RG[p.base+off+j] (by omega) (by rw [<-Nat.add_assoc];exact aqA cX);rw [g2 j t dU] at aa;simp only [Rel] at aa;simp only [World.cell?,xr];rw [<-aa];exact aqA cX
   have:=K.many p.bd (p.base+off) c (L.map fun x=>(⟨⟨x⟩⟩:ByteArray)) ⟨⟨sep⟩⟩ w cells a' (by rw [aqJ];omega) (by rw [aqJ];omega) (by rw [p3];show (Lib.join L sep).length<=_;omega);rw [p3,aqJ,g1] at this;refine this.mono fun e w' q=>?_;exact ⟨E,_,q.1,fun _ _ q=>q,by simp only [Rel],s.below q.2⟩
theorem agB {P:Program} {f:FuncId} (K:HT P f) {args:List V} {h ab:ae} {v:V} (he:Lz.run args h=.val v ab)
 (al:Fr) (E:Env) (w:World) (xs:List Value) (ay:bm E args xs) (s:a6 al E h w):
 Calls P f xs.toArray w fun e w'=>∃aw x,e=.returned x/\E.le aw/\Rel aw v x/\a6 al aw ab w':=by
 simp only [Lz] at he
 split at he
 case h_2=>cases he
 rename_i x y
 split at he
 case h_2=>cases he
 rename_i sep;obtain ⟨X,_,rfl,an,Y,_,rfl,av,rfl⟩:=ay;simp only [Rel] at av;subst av;cases x<;>simp only at he<;>first
  | (cases he;done)
  | skip
 . simp only [Rel] at an;obtain ⟨p,ai,aq,rfl⟩:=an;exact Uj K he s ai aq
 . simp only [Rel] at an;obtain ⟨p,ai,aq,rfl⟩:=an;exact Uj K he s ai (by omega)
 . simp only [a8.val.injEq] at he;obtain ⟨rfl,rfl⟩:=he;simp only [Rel] at an;subst an;refine (K.aj5 none 0 ⟨⟨sep⟩⟩ w).mono fun e w' q=>?_;obtain ⟨an,rfl⟩:=q;exact ⟨E,_,an,fun _ _ q=>q,by simp only [Rel],s⟩
def Em:Nat->Nat->List UInt8->List UInt8
 | 0,_,acc=>acc
 | f+1,u,acc=>bif Nat.blt u 10 then UInt8.ofNat (48+u)::acc else Em f (u / 10) (UInt8.ofNat (48+u % 10)::acc)
theorem R9:∀(f u:Nat) (acc:List UInt8),u<10 ^ (f+1)->Em (f+1) u acc=Lib.decDigits u++acc
 | f,u,acc,h=>by
   rw [Em,Lib.decDigits];by_cases hu:u<10
   . rw [dif_pos hu,show Nat.blt u 10=true from by rw [aqS];exact hu];rfl
   . rw [dif_neg hu,show Nat.blt u 10=false from by rw [<-Bool.not_eq_true,aqS];exact hu,aqt];cases f with
     | zero=>simp at h;omega
     | succ f=>
       rw [R9 f (u / 10) _ (by rw [Nat.pow_succ] at h;omega),aq7];rfl
def Ly:wE:=⟨fun args h=>match args with
 | [x]=>(match x with
   | .int k n=>(match n with
     | .ofNat u=>bif pR k .i64&&Nat.blt u 1000000000000000000 then .val (.str (Em 18 u [])) h else .fail
     | .negSucc _=>.fail)
   | _=>.fail)
 | _=>.fail⟩
def O7 (P:Program) (f:FuncId):Prop:=∀(n:Int) (w:World),Lay.ok w->-9223372036854775808<=n->n<=9223372036854775807->
 Calls P f #[.int .i64 n] w fun e w'=>e=.returned (.string ⟨(Lib.itoa n).toArray⟩)/\Below w.heap.size w w'
theorem agz {P:Program} {f:FuncId} (K:O7 P f) {args:List V} {h ab:ae} {v:V} (he:Ly.run args h=.val v ab)
 (al:Fr) (E:Env) (w:World) (xs:List Value) (ay:bm E args xs) (s:a6 al E h w):
 Calls P f xs.toArray w fun e w'=>∃aw x,e=.returned x/\E.le aw/\Rel aw v x/\a6 al aw ab w':=by
 simp only [Ly] at he
 split at he
 case h_2=>cases he
 rename_i x
 split at he
 case h_2=>cases he
 rename_i k n
 split at he
 case h_2=>cases he
 rename_i u;obtain ⟨BP,bE⟩:=jX he;clear he;simp only [aqi,aqS] at BP;have ar:=tg BP.1;subst ar;simp only [a8.val.injEq] at bE;obtain ⟨rfl,rfl⟩:=bE;obtain ⟨X,_,rfl,an,rfl⟩:=ay;simp only [Rel] at an;subst an;refine (K (.ofNat u) w (Lay.gy s.laid s.frame) (by have:(0:Int)<=.ofNat u:=Int.natCast_nonneg u;omega) (by have:(Int.ofNat u)=(u:Int):=rfl;omega)).mono fun e w' q=>?_;refine ⟨E,_,q.1,fun _ _ q=>q,?_,s.below q.2⟩;simp only [Rel];rw [R9 17 u [] BP.2,aqI];have:¬(Int.ofNat u<0):=by have:(0:Int)<=.ofNat u:=Int.natCast_nonneg u;omega
 unfold Lib.itoa;rw [aqr this];rfl
end
end Go.Proofs.YtahfljfikfkpnaaGreatDoor.bf
