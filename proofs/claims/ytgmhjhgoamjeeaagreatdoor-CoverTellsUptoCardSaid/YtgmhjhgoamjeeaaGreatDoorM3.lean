/- The abstract machine and its walks (a verified interpreter of the model's code: plain definitions and lemmas, no condition). Printed by a program from longer texts: names made short. -/
import Derived.Test.YtgmhjhgoamjeeaaGreatDoorM2
import Derived.Scope
import Derived.RangeFuncRecord
import Derived.Carry
import Derived.OpenShut
import Derived.ChangeSame
import Derived.Lib.Bytealg
import Derived.Lib.IndexMore
import Derived.Handed
import Derived.HandedShaped
set_option linter.unusedSectionVars false
set_option linter.unusedSimpArgs false
set_option linter.unusedVariables false
set_option maxHeartbeats 64000000
noncomputable section
namespace Go.Proofs.YtgmhjhgoamjeeaaGreatDoor.a7
section
open Go Go.RowKit
variable [Lay]
theorem Ej {α:Type} (p q:α->Bool):∀(l:List α),(∀x ∈ l,q x=true->p x=true)->(∃x ∈ l,p x=true/\q x=false)->l.countP q<l.countP p
 | [],_,h=>by obtain ⟨x,ao,_⟩:=h;simp at ao
 | a::l,aa,ae=>by
   have hle:l.countP q<=l.countP p:=List.countP_mono_left fun x ao=>aa x (by simp [ao]);obtain ⟨x,ao,ai,ar⟩:=ae;simp only [aql] at ao;rcases ao with rfl | ao
   . rw [List.countP_cons,List.countP_cons,ai,ar];simp;omega
   . have bd:=Ej p q l (fun y a6=>aa y (by simp [a6])) ⟨x,ao,ai,ar⟩;have bp:=aa a (by simp);rw [List.countP_cons,List.countP_cons];cases aff:q a with
     | true=>rw [bp aff];simp;omega
     | false=>simp;omega
theorem yh (e:Edge):Region.binds .any e=v7 e:=by unfold Region.binds v7;cases e.ground<;>rfl
section
variable {P:Program}
theorem vd {order:List Nat}:∀{bo:List Nat} {k j p:Nat},CN order k bo=true->bo[j]? =some p->order[p]? =some (k+j)
 | [],_,j,p,_,h=>by simp at h
 | q::bo,k,j,p,ai,h=>by
   simp only [CN,ap2] at ai;cases j with
   | zero=>
     simp only [aqm,ap3] at h;subst h;have aa:=ai.1;cases ar:order[q]? with
     | none=>rw [ar] at aa;cases aa
     | some i=>rw [ar] at aa;rw [aqE] at aa;rw [aa];rfl
   | succ j=>
     have:=vd ai.2 (show bo[j]? =some p by simpa using h);rw [this];congr 1;omega
theorem n9 {ops:Array Oper}:∀{order:List Nat} {p i:Nat} {o:Oper},order[p]? =some i->ops[i]? =some o->(hV ops order)[p]? =some o
 | [],p,i,o,h,_=>by simp at h
 | x::xs,p,i,o,h,aY=>by
   cases p with
   | zero=>
     simp only [aqm,ap3] at h;subst h;simp [hV,aY]
   | succ p=>simpa [hV] using n9 (show xs[p]? =some i by simpa using h) aY
theorem qQ {ops:Array Oper}:∀{order:List Nat},(hV ops order).length=order.length
 | []=>rfl
 | x::xs=>by simp [hV,qQ (order:=xs)]
structure Cert (P:Program) (ay:Nat) (ops:Array Oper) (calls:Nat->dX) (es:List e5) (aU:bJ) (a1:ag) (c2:bJ) (aF:ag) (eF:List Nat) (order aI:List Nat) (N M:Nat) (lit:Bool):Prop where
 len:es.length=N
 CB:N<=ops.size
 Uu:N<=M
 iK:∀k,k<ops.size->posOf aI k<ops.size/\order[posOf aI k]? =some k
 l5:∀p,p<ops.size->∃i,i<ops.size/\posOf aI i=p
 a1:cj es aF 0=a1
 aU:ey es c2 0=aU
 step:∀i o,ops[i]? =some o->posOf aI i<N->∃e,es[posOf aI i]? =some e/\(cG P ay ops o).run (calls i) e.r e.h=.val e.v (cj es aF (posOf aI i+1))/\ey es c2 (posOf aI i+1)=(fQ o.dst).run e.r e.v
 nL:∀i o,ops[i]? =some o->∃cP,(eX [] ops.toList)[i]? =some cP/\nr i o=true/\(posOf aI i<M->
  ∀k ok,ops[k]? =some ok->posOf aI k<M->∃mk,(eX [] ops.toList)[k]? =some mk/\pQ i cP (b3 ops o) o.dst k mk ok (Nat.blt (posOf aI k) (posOf aI i))=true/\(e9 P o.op=true->ep P ok=true->posOf aI k<posOf aI i->ga cP k=true\/(lit=true/\lU o=true/\lU ok=true)))
 ends:N ∈ eF
 mem:∀j o,ops[j]? =some o->ep P o=true->posOf aI j ∈ eF
 Wv:∀s ∈ eF,(s=ops.size\/(s=N/\M=N))\/∃k o,ops[k]? =some o/\ep P o=true/\s=posOf aI k
 ask:∀j o,ops[j]? =some o->looks o.op=true->e9 P o.op=false->posOf aI j<N->∃e,es[posOf aI j]? =some e/\∀s ∈ eF,
  tm P (eX [] ops.toList) ops.toList aI j (((eX [] ops.toList)[j]?).getD 0) s=true->∃c ab,(hb P c/\hs P c)/\(cG P ay ops o).run c e.r (cj es aF s)=.val e.v ab
 tail:M<ops.size->M=N/\∀k ok mk,ops[k]? =some ok->N<=posOf aI k->(eX [] ops.toList)[k]? =some mk->∀j,j<ops.size->posOf aI j<N->ga mk j=true
 stop:N<ops.size->ops.size<=M->∃i0 gz m0,ops[i0]? =some gz/\posOf aI i0=N/\mB gz.op=true/\(eX [] ops.toList)[i0]? =some m0/\
  (∀k ok mk,ops[k]? =some ok->N<posOf aI k->(eX [] ops.toList)[k]? =some mk->ga mk i0=true)/\
  (∀k ok,ops[k]? =some ok->gU ok=true->posOf aI k<N->ga m0 k=true)/\∃v ab,(cG P ay ops gz).run (calls i0) c2 aF=.cL v ab
theorem Ui {o:Oper} (h:mB o.op=true):e9 P o.op=true/\gU o=false:=by
 obtain ⟨dst,op,type,pos,after,guard⟩:=o;cases op<;>simp only [mB] at h<;>try (cases h;done)
 . rename_i c;obtain ⟨callee,args,types⟩:=c;cases callee<;>simp only at h<;>try (cases h;done)
   exact ⟨rfl,rfl⟩
 . exact ⟨rfl,rfl⟩
variable {ay:Nat} {ops:Array Oper} {call:dX} {calls:Nat->dX} {es:List e5} {aU:bJ} {a1:ag} {c2:bJ} {aF:ag} {eF:List Nat} {order aI:List Nat} {N M:Nat} {lit:Bool}
theorem Cert.xr (C:Cert P ay ops calls es aU a1 c2 aF eF order aI N M lit) {k bs:Nat} (aa:k<ops.size) (ae:bs<ops.size) (he:posOf aI k=posOf aI bs):k=bs:=by have a:=(C.iK k aa).2;have b:=(C.iK bs ae).2;rw [he,b] at a;cases a;rfl
theorem QU {ops:Array Oper} {aI:List Nat} (aF:wg P ops aI=true):∀i o,ops[i]? =some o->∃cP,(eX [] ops.toList)[i]? =some cP/\nr i o=true/\
 ∀k ok,ops[k]? =some ok->∃mk,(eX [] ops.toList)[k]? =some mk/\pQ i cP (b3 ops o) o.dst k mk ok (Nat.blt (posOf aI k) (posOf aI i))=true/\(e9 P o.op=true->ep P ok=true->posOf aI k<posOf aI i->ga cP k=true):=by
 intro i o aB;unfold wg at aF;obtain ⟨cP,aa,ae⟩:=q7 aF i o (by simpa using aB);simp only [aqP,ap2] at ae;refine ⟨cP,aa,ae.1,fun k ok aA=>?_⟩;obtain ⟨mk,cd,cn⟩:=q7 ae.2 k ok (by simpa using aA);simp only [aqP,ap2] at cn;refine ⟨mk,cd,cn.1,fun ax aH aN=>?_⟩;have fO:=cn.2;rw [ax,aH,aqY,show Nat.blt (posOf aI k) (posOf aI i)=true from by rw [aqA];exact aN] at fO;exact fO
theorem Cert.L1 (C:Cert P ay ops calls es aU a1 c2 aF eF order aI N M lit):∀p,p<=N->∀t,t<=top->
 (∃k o e,posOf aI k<p/\ops[k]? =some o/\o.dst=some t/\es[posOf aI k]? =some e/\T.get .bad (aG t) (ey es c2 p)=e.v)\/
 ((∀k o,posOf aI k<p->ops[k]? =some o->o.dst≠some t)/\T.get .bad (aG t) (ey es c2 p)=T.get .bad (aG t) aU)
 | 0,_,t,aK=>.inr ⟨fun k o h=>by omega,by rw [C.aU]⟩
 | p+1,aB,t,aK=>by
   obtain ⟨i,aN,kh⟩:=C.l5 p (by have:=C.CB;omega);have cC:ops[i]? =some ops[i]:=aqr aN;obtain ⟨e,aa,ae,aM⟩:=C.step i ops[i] cC (by omega);rw [kh] at aa ae aM;have Ki:ey es c2 p=e.r:=by simp [ey,aa]
   have dO:=RQ (r:=e.r) (v:=e.v) (kV ae).1 aK;rw [aM,dO];by_cases aq:ops[i].dst=some t
   . rw [aqf aq];exact .inl ⟨i,_,e,by omega,cC,aq,by rw [kh];exact aa,rfl⟩
   . rw [aqa aq,<-Ki];rcases Cert.L1 C p (by omega) t aK with ⟨k,o,c7,al,au,aJ,bE,c1⟩ | ⟨al,au⟩
     . exact .inl ⟨k,o,c7,by omega,au,aJ,bE,c1⟩
     . refine .inr ⟨fun k o aA aY=>?_,au⟩;by_cases gO:k=i
       . subst gO;rw [cC] at aY;cases aY;exact aq
       . refine al k o ?_ aY;have mU:=(ap5.1 aY).1;have:posOf aI k≠p:=fun e=>gO (C.xr mU aN (by rw [e,kh]));omega
theorem Cert.IE (C:Cert P ay ops calls es aU a1 c2 aF eF order aI N M lit):∀p,p<=N->T.get .bad eZ (ey es c2 p)=T.get .bad eZ aU
 | 0,_=>by rw [C.aU]
 | p+1,aB=>by
   obtain ⟨i,aN,kh⟩:=C.l5 p (by have:=C.CB;omega);have cC:ops[i]? =some ops[i]:=aqr aN;obtain ⟨e,aa,ae,aM⟩:=C.step i ops[i] cC (by omega);rw [kh] at aa ae aM;have Ki:ey es c2 p=e.r:=by simp [ey,aa]
   have aq:=(kV ae).1;rw [aM,<-Cert.IE C p (by omega),Ki];cases aea:ops[i].dst with
   | none=>rfl
   | some d=>
     rw [aea] at aq;simp only [e0,ap2,aqj] at aq;simp only [fQ];rw [T.iD,aqa (xm aq.2)]
def nameAt (es:List e5) (aF:ag) (aI:List Nat) (k:Nat):aQ:=aG (cj es aF (posOf aI k)).next
def A7 (es:List e5) (aF:ag) (aI:List Nat) (k:Nat):b8:=(cj es aF (posOf aI k+1)).get (nameAt es aF aI k)
def Made (es:List e5) (aF:ag) (aI:List Nat) (k:Nat):Prop:=(cj es aF (posOf aI k+1)).next≠(cj es aF (posOf aI k)).next
def kp (ops:Array Oper) (es:List e5) (aF:ag) (aI:List Nat) (listed:Array Bool) (s k:Nat):Prop:=
 ∃o,ops[k]? =some o/\(gU o=true/\Made es aF aI k)/\¬listed.getD k false=true/\posOf aI k<s
structure Holds (aC F:Fr) (es:List e5) (aF:ag) (aI:List Nat) (D:Nat->Prop):Prop where
 w:F.w=aC.w
 bY:∀b,(∀k,D k->nameAt es aF aI k≠b)->F.hW b=aC.hW b
 new:∀k,D k->F.hW (nameAt es aF aI k)=some (A7 es aF aI k)/\aC.hW (nameAt es aF aI k)=none
 inj:∀k bs,D k->D bs->nameAt es aF aI k=nameAt es aF aI bs->k=bs
theorem Holds.congr {aC F:Fr} {D M5:Nat->Prop} (H:Holds aC F es aF aI D) (h:∀k,M5 k↔D k):Holds aC F es aF aI M5:=
 ⟨H.w,fun b ak=>H.bY b fun k aA=>ak k ((h k).2 aA),fun k aA=>H.new k ((h k).1 aA),fun k bs aA gj=>H.inj k bs ((h k).1 aA) ((h bs).1 gj)⟩
theorem Holds.none {aC F:Fr} {D:Nat->Prop} (H:Holds aC F es aF aI D) (h:∀k,¬D k):F=aC:=by have:F.hW=aC.hW:=funext fun b=>H.bY b fun k aA=>absurd aA (h k);cases F;cases aC;have hw:=H.w;simp only at this hw;rw [this,hw]
theorem Cert.advance (C:Cert P ay ops calls es aU a1 c2 aF eF order aI N M lit) {aC:Fr} {listed:Array Bool} {E:Env} {w:World}:∀(d q:Nat),q+d=N->(∀k o,ops[k]? =some o->gU o=true->q<=posOf aI k->¬listed.getD k false=true)->
 ∀F,Holds aC F es aF aI (kp ops es aF aI listed q)->bc F E (cj es aF q) w->
 ∃s eb,s ∈ eF/\q<=s/\s<=N/\(∀k o,ops[k]? =some o->ep P o=true->q<=posOf aI k->s<=posOf aI k)/\Holds aC eb es aF aI (kp ops es aF aI listed s)/\bc eb E (cj es aF s) w
 | 0,q,ar,_,F,H,S=>by
   have:q=N:=by omega
   subst this;exact ⟨q,F,C.ends,ap7 _,ap7 _,fun k o _ _ h=>h,H,S⟩
 | d+1,q,ar,qz,F,H,S=>by
   obtain ⟨i,aN,kh⟩:=C.l5 q (by have:=C.CB;omega);have cC:ops[i]? =some ops[i]:=aqr aN;cases lQ:ep P ops[i] with
   | true=>exact ⟨q,F,by rw [<-kh];exact C.mem i _ cC lQ,ap7 _,by omega,fun k o _ _ h=>h,H,S⟩
   | false=>
     obtain ⟨e,aa,ae,aM⟩:=C.step i ops[i] cC (by omega);rw [kh] at aa ae;have uL:cj es aF q=e.h:=by simp [cj,aa]
     have only:∀k o,ops[k]? =some o->posOf aI k=q->k=i:=fun k o aA ai=>C.xr (ap5.1 aA).1 aN (by rw [ai,kh]);have fin:∀eb,Holds aC eb es aF aI (kp ops es aF aI listed (q+1))->bc eb E (cj es aF (q+1)) w->
      ∃s eb,s ∈ eF/\q<=s/\s<=N/\(∀k o,ops[k]? =some o->ep P o=true->q<=posOf aI k->s<=posOf aI k)/\Holds aC eb es aF aI (kp ops es aF aI listed s)/\bc eb E (cj es aF s) w:=by
      intro eb gL iA;obtain ⟨s,Xm,g1,g2,g3,g4,g5,g6⟩:=Cert.advance C d (q+1) (by omega) (fun k o aa ae aM=>qz k o aa ae (by omega)) eb gL iA;refine ⟨s,Xm,g1,by omega,g3,fun k o aA av ai=>g4 k o aA av ?_,g5,g6⟩;by_cases Fu:posOf aI k=q
      . have:=only k o aA Fu;subst this;rw [cC] at aA;cases aA;rw [lQ] at av;cases av
      . omega
     have pass:cj es aF (q+1)=e.h->(gU ops[i]=true->¬Made es aF aI i)->∃s eb,s ∈ eF/\q<=s/\s<=N/\(∀k o,ops[k]? =some o->ep P o=true->q<=posOf aI k->s<=posOf aI k)/\Holds aC eb es aF aI (kp ops es aF aI listed s)/\bc eb E (cj es aF s) w:=by
      intro ze jl;rw [<-uL] at ze;refine fin F (H.congr fun k=>⟨?_,?_⟩) (by rw [ze];exact S)
      . rintro ⟨o,al,au,aJ,bE⟩;refine ⟨o,al,au,aJ,?_⟩;have:posOf aI k≠q:=fun e=>by
         have:=only k o al e;subst this;rw [cC] at al;cases al;exact jl au.1 au.2
        omega
      . rintro ⟨o,al,au,aJ,bE⟩;exact ⟨o,al,au,aJ,by omega⟩
     cases bp:gU ops[i] with
     | true=>
      rcases QR bp ae with ⟨cN,cd,cn⟩ | ⟨cd,_⟩
      ·
       have aO:=S.hold cN;have aW:nameAt es aF aI i=aG (cj es aF q).next:=by unfold nameAt;rw [kh]
       have ak:A7 es aF aI i=cN:=by unfold A7;rw [aW,kh,cd,uL,ag.iR,aqf rfl]
       rw [uL,<-cd] at aO;have aeV:Made es aF aI i:=by unfold Made;rw [kh,cd,uL];exact Nat.succ_ne_self _
       have rU:¬listed.getD i false=true:=qz i _ cC bp (by omega);have Ir:∀k,kp ops es aF aI listed (q+1) k->k=i\/kp ops es aF aI listed q k:=by
        rintro k ⟨o,al,au,aJ,bE⟩;by_cases Fu:posOf aI k=q
        . exact .inl (only k o al Fu)
        . exact .inr ⟨o,al,au,aJ,by omega⟩
       have fresh:∀b hH,F.hW b=some hH->b≠nameAt es aF aI i:=by intro b hH rK heq;obtain ⟨_,_,j,tf,tg⟩:=S.oW b hH rK;rw [heq,aW] at tg;rw [uL] at tf tg;have:=gZ tg;omega
       have Ti:∀b,b≠nameAt es aF aI i->(F.hold (aG e.h.next) cN).hW b=F.hW b:=by intro b Sd;rw [aW,uL] at Sd;simp only [Fr.hold,aqa Sd]
       have YP:(F.hold (aG e.h.next) cN).hW (nameAt es aF aI i)=some cN:=by rw [aW,uL];simp only [Fr.hold,aqB]
       have ne:∀k,kp ops es aF aI listed q k->nameAt es aF aI k≠nameAt es aF aI i:=fun k aA=>fresh _ _ (H.new k aA).1;refine fin (F.hold (aG e.h.next) cN) ⟨H.w,fun b rK=>?_,fun k aA=>?_,fun k bs aA gj he=>?_⟩ aO
       . have wC:b≠nameAt es aF aI i:=fun e=>rK i ⟨_,cC,⟨bp,aeV⟩,rU,by omega⟩ e.symm;rw [Ti b wC];exact H.bY b fun k aA=>rK k (by obtain ⟨o,al,au,aJ,bE⟩:=aA;exact ⟨o,al,au,aJ,by omega⟩)
       . rcases Ir k aA with rfl | aA
         . refine ⟨by rw [YP,ak],?_⟩;cases ai:aC.hW (nameAt es aF aI k) with
           | none=>rfl
           | some hH=>
             exfalso;have:=H.bY (nameAt es aF aI k) fun bs gj=>ne bs gj;rw [ai] at this;exact fresh _ _ this rfl
         . rw [Ti _ (ne k aA)];exact H.new k aA
       . rcases Ir k aA with rfl | aA<;>rcases Ir bs gj with rfl | gj
         . rfl
         . exact absurd he.symm (ne bs gj)
         . exact absurd he (ne k aA)
         . exact H.inj k bs aA gj he
      . refine pass cd fun _ hm=>hm ?_;rw [kh,cd,uL]
     | false=>
       have cK:e9 P ops[i].op=false:=by unfold ep at lQ;rw [bp] at lQ;simpa using lQ
       exact pass (we cK ae).1 fun h=>by rw [bp] at h;cases h
structure q9 (P:Program) (aC:Fr) (ay:Nat) (ops:Array Oper) (es:List e5) (aU:bJ) (aF:ag) (eF aI:List Nat) (gR:Env) (N:Nat) (D:List Deferred) (listed:Array Bool) (a:Act) (w:World):Prop where
 tk:listed.size=ops.size
 size:a.tmps.size=ay
 defers:a.defers=D
 um:∀k,listed.getD k false=true->posOf aI k<N
 down:q_ ops fun k=>listed.getD k false=true
 main:∃E s F,gR.le E/\s ∈ eF/\s<=N/\(∀k o,ops[k]? =some o->ep P o=true->(listed.getD k false=true↔posOf aI k<s))/\
  (∀k o,ops[k]? =some o->gU o=true->listed.getD k false=true->posOf aI k<s)/\Holds aC F es aF aI (kp ops es aF aI listed s)/\bc F E (cj es aF s) w/\
  ∀t,t<=top->(∃k o e,listed.getD k false=true/\ops[k]? =some o/\o.dst=some t/\es[posOf aI k]? =some e/\Rel E e.v (a.tmps.getD t undef))\/
   ((∀k o,listed.getD k false=true->ops[k]? =some o->o.dst≠some t)/\Rel E (T.get .bad (aG t) aU) (a.tmps.getD t undef))
theorem uB {l:Array Bool} {i:Nat}:l.getD i false=true↔l[i]? =some true:=by
 rw [aqx];cases l[i]? with
 | none=>simp
 | some b=>cases b<;>simp
theorem fW {l:Array Bool} {i k:Nat} (aB:i<l.size):(l.setIfInBounds i true).getD k false=true↔(k=i\/l.getD k false=true):=by
 rw [uB,uB,aqo];by_cases h:i=k
 . subst h;simp [aB]
 . have:¬k=i:=fun e=>h e.symm;simp [h,this]
theorem ED {r:bJ} {t:Nat} (aK:t<=top):∀{l:List Oper},T.get .bad (aG t) (pq r l)=.bad\/(T.get .bad (aG t) (pq r l)=T.get .bad (aG t) r/\∀o ∈ l,o.dst≠some t)
 | []=>.inr ⟨rfl,fun o aY=>by simp at aY⟩
 | o::os=>by
   simp only [pq];cases aq:o.dst with
   | none=>
     simp only;rcases ED (r:=r) aK (l:=os) with h | ⟨aa,ae⟩
     . exact .inl h
     . exact .inr ⟨aa,fun b_ hP=>by
        rcases aql.1 hP with rfl | hP
        . rw [aq];simp
        . exact ae b_ hP⟩
   | some d=>
     simp only;cases ak:Nat.ble d top with
     | true=>
       simp only [ap8];rw [T.iD];by_cases wG:d=t
       . subst wG;rw [aqf rfl];exact .inl rfl
       . rw [aqa (fun e=>wG (gZ e))];rcases ED (r:=r) aK (l:=os) with h | ⟨aa,ae⟩
         . exact .inl h
         . exact .inr ⟨aa,fun b_ hP=>by
            rcases aql.1 hP with rfl | hP
            . rw [aq];simpa using wG
            . exact ae b_ hP⟩
     | false=>
       simp only [aqe];have wG:d≠t:=fun e=>by subst e;rw [<-aqj] at aK;rw [aK] at ak;cases ak
       rcases ED (r:=r) aK (l:=os) with h | ⟨aa,ae⟩
       . exact .inl h
       . exact .inr ⟨aa,fun b_ hP=>by
          rcases aql.1 hP with rfl | hP
          . rw [aq];simpa using wG
          . exact ae b_ hP⟩
theorem EC {r:bJ}:∀{l:List Oper},T.get .bad eZ (pq r l)=T.get .bad eZ r
 | []=>rfl
 | o::os=>by
   simp only [pq];cases aq:o.dst with
   | none=>exact EC
   | some d=>
     simp only;cases ak:Nat.ble d top with
     | true=>
       simp only [ap8];rw [T.iD,aqa (xm (aqQ ak))];exact EC
     | false=>exact EC
theorem QX {rd:Option Nat} {D:List Deferred} {aC:Fr} (bI:et P) (cX:∀i,hb P (calls i)) (dJ:∀i,hs P (calls i)) (C:Cert P ay ops calls es aU a1 c2 aF eF order aI N M lit) {gR:Env} {listed:Array Bool} {a:Act} {w:World} (I:q9 P aC ay ops es aU aF eF aI gR N D listed a w)
 {i:Nat} (aB:i ∈ Region.ready .any ops listed) (aez:posOf aI i<M) (wO:lit=true->∀o k ok,ops[i]? =some o->lU o=true->ops[k]? =some ok->lU ok=true->posOf aI k<posOf aI i->listed.getD k false=true) {Q:Exit->Act->World->Prop} {K:Act->World->Prop} (dM:∀bn w',q9 P aC ay ops es aU aF eF aI gR N D (listed.setIfInBounds i true) bn w'->K bn w')
 (cD:∀az bn w' x v ab,gR.le az->N<ops.size->ops.size<=M->(∃i0 gz,ops[i0]? =some gz/\posOf aI i0=N/\(cG P ay ops gz).run (calls i0) c2 aF=.cL v ab)->RegRel0 az ay (pq aU ops.toList) bn->bn.defers=D->Rel az v x->bc aC az ab w'->Q (.panic (qS x)) bn w'):wpOpIn (cc rd) 0 P ops Q i K a w:=by
 rw [mem_ready] at aB;obtain ⟨E,s,F,jh,aO,Fw,mV,c8,kC,rW,w1⟩:=I.main;obtain ⟨qz,o,cC,wH⟩:=aB;have ez:i<ops.size:=(ap5.1 cC).1;have uO:¬listed.getD i false=true:=by rw [uB];intro h;rw [aqx,h] at qz;simp at qz
 have SD:=Cv I.down ops.toList [] (fun j=>by simp) (fun k m j aA=>by simp at aA);have yK:q_ ops fun k=>listed.getD k false=true\/k=i:=by
  intro k ok e aA bx he ak;rcases aA with aA | rfl
  . exact .inl (I.down k ok e aA bx he ak)
  . rw [cC] at bx;cases bx;exact .inl (wH e (arM.1 he) (by rw [yh];exact ak))
 have aeT:=Cv yK ops.toList [] (fun j=>by simp) (fun k m j aA=>by simp at aA);obtain ⟨cP,mW,iV,y8⟩:=C.nL i o cC;have y8:=y8 aez;have Jj:=C.Uu;have By:∀k,k≠i->ga cP k=true->listed.getD k false=true:=by
  intro k aA ak;rcases aeT i cP k mW ak (.inr rfl) with h | h
  . exact h
  . exact absurd h aA
 have du:=(C.iK i ez).1;have ae':posOf aI i<=N:=by
  rcases arv N (posOf aI i) with Fe | hle
  . exfalso;have E2:ops.size<=M:=by
     rcases arv M ops.size with h | h
     . have:=(C.tail h).1;omega
     . exact h
    obtain ⟨i0,gz,m0,b7,z2,z3,z4,z5,_⟩:=C.stop (by omega) E2;have ak:=z5 i o cP cC Fe mW;have aa:=By i0 (fun e=>by subst e;omega) ak;have:=I.um i0 aa;omega
  . exact hle
 have uniq:∀(k bs:Nat) (ok lh:Oper) (t:Nat),ops[k]? =some ok->ops[bs]? =some lh->posOf aI k<M->posOf aI bs<M->ok.dst=some t->lh.dst=some t->k=bs:=by
  intro k bs ok lh t aa ae bM b1 aM bw;obtain ⟨mk,_,_,ai⟩:=C.nL k ok aa;obtain ⟨mk',_,iE,_⟩:=ai bM bs lh ae b1;unfold pQ at iE;rw [h1] at iE;by_cases h8:k=bs
  . exact h8
  . rw [aqa h8,bw,aM] at iE;simp at iE
 have VG:jv (b3 ops o)=true->∀t ∈ b3 ops o,Rel E (T.get .bad (aG t) (ey es c2 (posOf aI i))) (a.tmps.getD t undef):=by
  intro oJ t aK;have zh:t<=top:=by have:=aqu.1 oJ t aK;exact aqQ this
  have UZ:∀(k:Nat) (ok:Oper),k≠i->posOf aI k<M->ops[k]? =some ok->ok.dst=some t->∃mk,(eX [] ops.toList)[k]? =some mk/\(posOf aI k<posOf aI i->ga cP k=true)/\(¬posOf aI k<posOf aI i->ga mk i=true):=by
   intro k ok aA JP bx aq;obtain ⟨mk,al,au,_⟩:=y8 k ok bx JP;refine ⟨mk,al,?_⟩;unfold pQ at au;rw [h1,aqa (fun e=>aA e.symm),aq] at au;simp only [ap2] at au;have aJ:=au.1;rw [show (b3 ops o).contains t=true from by simpa using aK] at aJ;simp only [ap8] at aJ;refine ⟨fun aN=>?_,fun kd=>?_⟩
   . rw [show Nat.blt (posOf aI k) (posOf aI i)=true from by rw [aqA];exact aN] at aJ;exact aJ
   . rw [show Nat.blt (posOf aI k) (posOf aI i)=false from by rw [<-aqF,aqA];exact kd] at aJ;exact aJ
  rcases C.L1 (posOf aI i) ae' t zh with ⟨k,ok,Ex,al,au,aJ,bE,c1⟩ | ⟨al,au⟩
  . obtain ⟨mk,_,di,_⟩:=UZ k ok (fun e=>by subst e;omega) (by omega) au aJ;have BQ:=By k (fun e=>by subst e;omega) (di al);rcases w1 t zh with ⟨bs,lh,IL,cq,cx,eE,i_,oV⟩ | ⟨cq,_⟩
    . have:=uniq k bs ok lh t au cx (by omega) (by have:=I.um bs cq;omega) aJ eE;subst this;rw [bE] at i_;cases i_;rw [c1];exact oV
    . exact absurd aJ (cq k ok BQ au)
  . rcases w1 t zh with ⟨bs,lh,IL,cq,cx,eE,i_,oV⟩ | ⟨_,cx⟩
    . have gO:bs≠i:=fun e=>uO (e ▸ cq);obtain ⟨mk,m1,_,cY⟩:=UZ bs lh gO (by have:=I.um bs cq;omega) cx eE;by_cases aN:posOf aI bs<posOf aI i
      . exact absurd eE (al bs lh aN cx)
      . exact absurd (SD bs mk i m1 (cY aN) cq) uO
    . rw [au];exact cx
 have level:e9 P o.op=true->s<=posOf aI i->s=posOf aI i/\gU o=false:=by
  intro mn hle;rcases C.Wv s aO with (h | ⟨h,E1⟩) | ⟨k,ok,cd,cn,fO⟩
  . omega
  . omega
  . have SJ:¬listed.getD k false=true:=fun h=>by have:=(mV k ok cd cn).1 h;omega
    have mU:=(ap5.1 cd).1;by_cases gO:k=i
    . subst gO;rw [cC] at cd;cases cd;refine ⟨fO,?_⟩;unfold ep at cn;simpa [mn] using cn
    . have aN:posOf aI k<posOf aI i:=by
       have:posOf aI k≠posOf aI i:=fun e=>gO (C.xr mU ez e);omega
      obtain ⟨mk,_,_,aJ⟩:=y8 k ok cd (by omega);rcases aJ mn cn aN with h | ⟨g1,g2,g3⟩
      . exact absurd (By k gO h) SJ
      . exact absurd (wO g1 o k ok cC g2 cd g3 aN) SJ
 rcases arv (posOf aI i) N with JZ | aoX
 case inr=>
  have jn:posOf aI i=N:=by omega
  have E2:ops.size<=M:=by
   rcases arv M ops.size with h | h
   . have:=(C.tail h).1;omega
   . exact h
  obtain ⟨i0,gz,m0,b7,z2,z3,z4,z5,kR,v,ab,MY⟩:=C.stop (by omega) E2;have aeB:i0=i:=C.xr (ap5.1 b7).1 ez (by rw [z2,jn]);subst aeB;rw [cC] at b7;cases b7;rw [mW] at z4;cases z4;obtain ⟨mn,aeY⟩:=Ui z3;have yO:ep P o=true:=by unfold ep;rw [mn,aeY];rfl
  have Kp:s<=posOf aI i0:=by
   rcases arv (posOf aI i0) s with h | h
   . exact absurd ((mV i0 o cC yO).2 h) uO
   . exact h
  have qE:=(level mn Kp).1;have ji:F=aC:=kC.none fun k aA=>by
   obtain ⟨ok,al,au,aJ,bE⟩:=aA;have gO:k≠i0:=fun e=>by subst e;omega
   exact aJ (By k gO (kR k ok al au.1 (by omega)))
  subst ji;have dE:es[N]? =none:=aqI (by rw [C.len];exact ap7 _);have k8:=VG (QP MY).2;rw [jn] at k8;simp only [ey,dE] at k8;rw [qE,jn] at rW;simp only [cj,dE] at rW;refine abN bI (cX i0) (dJ i0) cC MY z3 I.size k8 rW fun az x w' al au aJ=>cD az a w' x v ab (jh.trans al) (by omega) E2 ⟨i0,o,cC,jn,MY⟩ ⟨I.size,fun t aK=>?_⟩ I.defers au aJ;rcases ED (r:=aU) aK (l:=ops.toList) with h | ⟨aa,ae⟩
  . rw [h];simp [Rel]
  . rw [aa];rcases w1 t aK with ⟨k,ok,Ex,cq,cx,eE,i_,oV⟩ | ⟨cq,cx⟩
    . exact absurd eE (ae ok (by rw [<-arR] at cx;exact aqv cx))
    . exact Rel.mono al _ _ cx
 obtain ⟨e,rM,cU,ao'⟩:=C.step i o cC JZ;have hO:=kV cU;have eU:ey es c2 (posOf aI i)=e.r:=by simp [ey,rM]
 have h7:cj es aF (posOf aI i)=e.h:=by simp [cj,rM]
 have reads:=VG hO.2;rw [eU] at reads;have gH:i<listed.size:=by rw [I.tk];exact ez
 have after:∀(gm:Nat) (eb:Fr) (az:Env) (x:Value) (w':World),gm ∈ eF->gm<=N->(∀k ok,ops[k]? =some ok->ep P ok=true->((k=i\/listed.getD k false=true)↔posOf aI k<gm))->
  (∀k ok,ops[k]? =some ok->gU ok=true->(k=i\/listed.getD k false=true)->posOf aI k<gm)->
  Holds aC eb es aF aI (kp ops es aF aI (listed.setIfInBounds i true) gm)->E.le az->Rel az e.v x->bc eb az (cj es aF gm) w'->
  q9 P aC ay ops es aU aF eF aI gR N D (listed.setIfInBounds i true) (a.put o.dst x) w':=by
  intro gm eb az x w' jo afw fm adR aew hle ao afu
  refine ⟨by simp [I.tk],by cases h:o.dst<;>simp [Act.put,I.size],by cases h:o.dst<;>simp [Act.put,I.defers],fun k aA=>by
   rcases (fW gH).1 aA with rfl | aA
   . exact JZ
   . exact I.um k aA,?_,az,gm,eb,jh.trans hle,jo,afw,fun k ok aa ae=>by rw [fW gH];exact fm k ok aa ae,
   fun k ok aa ae aM=>adR k ok aa ae ((fW gH).1 aM),aew,afu,fun t aK=>?_⟩
  . intro k ok c7 aA bx eG ak;rw [fW gH] at aA ⊢;rcases yK k ok c7 aA.symm bx eG ak with h | h
    . exact .inr h
    . exact .inl h
  . by_cases aq:o.dst=some t
    . refine .inl ⟨i,o,e,by rw [fW gH];exact .inl rfl,cC,aq,rM,?_⟩;have aN:t<a.tmps.size:=by
       have:=hO.1;rw [aq] at this;simp only [e0,ap2,aqA] at this;rw [I.size];exact this.1
      rw [aq];simp only [Act.put];rw [aqx,aqo,aqf rfl,aqf aN];exact ao
    . have dO:(a.put o.dst x).tmps.getD t undef=a.tmps.getD t undef:=by
       cases ae4:o.dst with
       | none=>rfl
       | some d=>
         simp only [Act.put];rw [aqx,aqx,aqo,aqa (fun e=>aq (by rw [ae4,e]))]
      rw [dO];rcases w1 t aK with ⟨k,ok,Ex,cq,cx,eE,i_,oV⟩ | ⟨cq,cx⟩
      . exact .inl ⟨k,ok,Ex,by rw [fW gH];exact .inr cq,cx,eE,i_,Rel.mono hle _ _ oV⟩
      . refine .inr ⟨fun k ok aA bx=>?_,Rel.mono hle _ _ cx⟩;rw [fW gH] at aA;rcases aA with rfl | aA
        . rw [cC] at bx;cases bx;exact aq
        . exact cq k ok aA bx
 have JB:¬(gU o=true/\Made es aF aI i)->∀gm k,kp ops es aF aI (listed.setIfInBounds i true) gm k↔kp ops es aF aI listed gm k:=by
  intro bp gm k;constructor
  . rintro ⟨ok,al,au,aJ,bE⟩;exact ⟨ok,al,au,fun h=>aJ ((fW gH).2 (.inr h)),bE⟩
  . rintro ⟨ok,al,au,aJ,bE⟩;refine ⟨ok,al,au,fun h=>?_,bE⟩;rcases (fW gH).1 h with rfl | h
    . rw [cC] at al;cases al;exact bp au
    . exact aJ h
 cases mn:e9 P o.op with
 | true=>
   cases bp:gU o with
   | true=>
     have aN:posOf aI i<s:=by
      rcases arv (posOf aI i) s with h | h
      . exact h
      . have:=(level mn h).2;rw [bp] at this;cases this
     by_cases hm:Made es aF aI i
     case neg=>
      have Kl:(cG P ay ops o).run (calls i) e.r (cj es aF s)=.val e.v (cj es aF s):=by
       rcases QR bp cU with ⟨cN,cd,_⟩ | ⟨_,cd⟩
       . exact absurd (show Made es aF aI i from by unfold Made;rw [cd,h7];exact Nat.succ_ne_self _) hm
       . exact cd _
      refine ry bI (cX i) (dJ i) cC Kl I.size reads rW fun az x w' al au aJ=>dM _ _ (after s F az x w' aO Fw (fun k ok bx iT=>?_) (fun k ok bx qv aA=>?_) (kC.congr fun k=>JB (fun h=>hm h.2) s k) al au aJ)
      . constructor
        . rintro (rfl | h)
          . rw [cC] at bx;cases bx;unfold ep at iT;rw [bp] at iT;simp at iT
          . exact (mV k ok bx iT).1 h
        . intro h;exact .inr ((mV k ok bx iT).2 h)
      . rcases aA with rfl | aA
        . exact aN
        . exact c8 k ok bx qv aA
     have ml:kp ops es aF aI listed s i:=⟨o,cC,⟨bp,hm⟩,uO,aN⟩;have J1:(cj es aF (posOf aI i+1)).next≠e.h.next:=by rw [<-h7];exact hm
     have jl:nameAt es aF aI i=aG e.h.next:=by unfold nameAt;rw [h7]
     have m_:=(kC.new i ml).1;have zm:=(kC.new i ml).2;have px:A7 es aF aI i=(cj es aF (posOf aI i+1)).get (aG e.h.next):=by unfold A7;rw [jl]
     rw [jl,px] at m_;refine abL cC bp cU I.size reads rW J1 m_ fun az x w' al au aJ=>dM _ _ (after s (F.free (aG e.h.next)) az x w' aO Fw (fun k ok bx iT=>?_) (fun k ok bx qv aA=>?_) ?_ al au aJ)
     . constructor
       . rintro (rfl | h)
         . rw [cC] at bx;cases bx;unfold ep at iT;rw [bp] at iT;simp at iT
         . exact (mV k ok bx iT).1 h
       . intro h;exact .inr ((mV k ok bx iT).2 h)
     . rcases aA with rfl | aA
       . exact aN
       . exact c8 k ok bx qv aA
     . have sub:∀k,kp ops es aF aI (listed.setIfInBounds i true) s k->kp ops es aF aI listed s k/\k≠i:=by
        rintro k ⟨ok,al,au,aJ,bE⟩;refine ⟨⟨ok,al,au,fun h=>aJ ((fW gH).2 (.inr h)),bE⟩,fun e=>aJ ((fW gH).2 (.inl e))⟩
       refine ⟨kC.w,fun b ak=>?_,fun k aA=>?_,fun k bs aA gj=>kC.inj k bs (sub k aA).1 (sub bs gj).1⟩
       . by_cases wC:b=aG e.h.next
         . subst wC;simp only [Fr.free,aqB];rw [<-jl,zm]
         . simp only [Fr.free,aqa wC];refine kC.bY b fun k aA=>?_;by_cases gO:k=i
           . subst gO;rw [jl];exact fun e=>wC e.symm
           . obtain ⟨ok,al,au,aJ,bE⟩:=aA;refine ak k ⟨ok,al,au,fun h=>?_,bE⟩;rcases (fW gH).1 h with h | h
             . exact gO h
             . exact aJ h
       . obtain ⟨Sv,gO⟩:=sub k aA;have cK:nameAt es aF aI k≠aG e.h.next:=fun e=>gO (kC.inj k i Sv ml (by rw [e,jl]))
         simp only [Fr.free,aqa cK];exact kC.new k Sv
   | false=>
     have yO:ep P o=true:=by unfold ep;rw [mn,bp];rfl
     have Kp:s<=posOf aI i:=by
      rcases arv (posOf aI i) s with h | h
      . exact absurd ((mV i o cC yO).2 h) uO
      . exact h
     have qE:=(level mn Kp).1;rw [<-h7,<-qE] at cU;refine ry bI (cX i) (dJ i) cC cU I.size reads rW fun az x w' al au aJ=>?_;rw [qE] at aJ;have aeP:∀k ok,ops[k]? =some ok->gU ok=true->posOf aI i+1<=posOf aI k->¬(listed.setIfInBounds i true).getD k false=true:=by
      intro k ok bx qv ai h;rcases (fW gH).1 h with rfl | h
      . omega
      . have:=c8 k ok bx qv h;omega
     have aey:Holds aC F es aF aI (kp ops es aF aI (listed.setIfInBounds i true) (posOf aI i+1)):=by
      refine kC.congr fun k=>?_;rw [JB (fun h=>by rw [bp] at h;cases h.1)];constructor
      . rintro ⟨ok,b7,z2,z3,z4⟩;refine ⟨ok,b7,z2,z3,?_⟩;have mU:=(ap5.1 b7).1;have:posOf aI k≠posOf aI i:=fun e=>by
         have:=C.xr mU ez e;subst this;rw [cC] at b7;cases b7;rw [bp] at z2;cases z2.1
        omega
      . rintro ⟨ok,b7,z2,z3,z4⟩;exact ⟨ok,b7,z2,z3,by omega⟩
     obtain ⟨gm,eb,g1,g2,g3,g4,g5,g6⟩:=C.advance (N - (posOf aI i+1)) (posOf aI i+1) (by omega) aeP F aey aJ;refine dM _ _ (after gm eb az x w' g1 g3 (fun k ok bx iT=>?_) (fun k ok bx qv aA=>?_) g5 al au g6)
     . have mU:=(ap5.1 bx).1;constructor
       . rintro (rfl | h)
         . omega
         . have:=(mV k ok bx iT).1 h;omega
       . intro h;by_cases gO:k=i
         . exact .inl gO
         . refine .inr ((mV k ok bx iT).2 ?_);rcases arv (posOf aI k) s with a_ | a_
           . exact a_
           . have cK:posOf aI k≠posOf aI i:=fun e=>gO (C.xr mU ez e);have:=g4 k ok bx iT (by omega);omega
     . rcases aA with rfl | aA
       . omega
       . have:=c8 k ok bx qv aA;omega
 | false=>
   have bp:gU o=false:=by
    cases h:gU o with
    | false=>rfl
    | true=>rw [agd h] at mn;cases mn
   obtain ⟨c,av,Kl⟩:∃c,(hb P c/\hs P c)/\(cG P ay ops o).run c e.r (cj es aF s)=.val e.v (cj es aF s):=by
    cases d':looks o.op with
    | false=>exact ⟨_,⟨cX i,dJ i⟩,(we mn cU).2 d' _⟩
    | true=>
      obtain ⟨c7,al,au⟩:=C.ask i o cC d' mn JZ;rw [rM] at al;cases al
      obtain ⟨c,ab,av,aJ⟩:=au s aO (MZ (by rw [K7];simp) fun k mk ok aa ae=>by
       simp only [aqP];have bx:ops[k]? =some ok:=by simpa using ae
       cases wP:ep P ok with
       | false=>rfl
       | true=>
         simp only [ap8];cases BP:Nat.blt (posOf aI k) s with
         | true=>
           rw [aqA] at BP;simp only [ap8,arb];cases ak:ga mk i with
           | false=>rfl
           | true=>exact absurd (SD k mk i aa ak ((mV k ok bx wP).2 BP)) uO
         | false=>
           have aeL:¬posOf aI k<s:=by rw [<-aqA,BP];simp
           simp only [aqe,arb,mW,aqL];cases ak:ga cP k with
           | false=>rfl
           | true=>
             by_cases gO:k=i
             . subst gO;rw [cC] at bx;cases bx;unfold ep at wP;rw [mn] at wP;cases wP
             . exact absurd ((mV k ok bx wP).1 (By k gO ak)) aeL)
      rw [(we mn aJ).1] at aJ;exact ⟨c,av,aJ⟩
   refine ry bI av.1 av.2 cC Kl I.size reads rW fun az x w' al au aJ=>dM _ _ (after s F az x w' aO Fw (fun k ok bx iT=>?_) (fun k ok bx qv aA=>?_) (kC.congr fun k=>JB (fun h=>by rw [bp] at h;cases h.1) s k) al au aJ)
   . constructor
     . rintro (rfl | h)
       . rw [cC] at bx;cases bx;unfold ep at iT;rw [mn] at iT;cases iT
       . exact (mV k ok bx iT).1 h
     . intro h;exact .inr ((mV k ok bx iT).2 h)
   . rcases aA with rfl | aA
     . rw [cC] at bx;cases bx;rw [bp] at qv;cases qv
     . exact c8 k ok bx qv aA
theorem QM {D:List Deferred} {aC:Fr} (C:Cert P ay ops calls es aU a1 c2 aF eF order aI N M lit) {gR:Env} (Jj:N<=M) {listed:Array Bool} {a:Act} {w:World} (I:q9 P aC ay ops es aU aF eF aI gR N D listed a w)
 (c8:∀k,k<ops.size->posOf aI k<N->listed.getD k false=true):∃az,gR.le az/\RegRel0 az ay c2 a/\a.defers=D/\bc aC az aF w:=by
 obtain ⟨E,s,F,jh,aO,Fw,mV,_,kC,rW,w1⟩:=I.main;have dE:es[N]? =none:=aqI (by rw [C.len];exact ap7 _);have yV:cj es aF N=aF:=by simp [cj,dE]
 have SW:ey es c2 N=c2:=by simp [ey,dE]
 have qE:s=N:=by
  rcases C.Wv s aO with (h | ⟨h,_⟩) | ⟨k,ok,cd,cn,fO⟩
  . have:=C.CB;omega
  . exact h
  . rcases arv s N with aN | kd
    . have:=(mV k ok cd cn).1 (c8 k (ap5.1 cd).1 (by omega));omega
    . omega
 subst qE;have ji:F=aC:=kC.none fun k aA=>by obtain ⟨ok,al,au,aJ,bE⟩:=aA;exact aJ (c8 k (ap5.1 al).1 bE)
 subst ji;rw [yV] at rW;have E1:∀k,posOf aI k<s->posOf aI k<M:=fun k h=>by omega
 refine ⟨E,jh,⟨I.size,fun t aK=>?_⟩,I.defers,rW⟩;have afF:∀(k bs:Nat) (ok lh:Oper),ops[k]? =some ok->ops[bs]? =some lh->posOf aI k<s->posOf aI bs<s->ok.dst=some t->lh.dst=some t->k=bs:=by
  intro k bs ok lh aa ae bM b1 aM bw;obtain ⟨mk,_,_,ai⟩:=C.nL k ok aa;obtain ⟨mk',_,iE,_⟩:=ai (E1 k bM) bs lh ae (E1 bs b1);unfold pQ at iE;rw [h1] at iE;by_cases h8:k=bs
  . exact h8
  . rw [aqa h8,bw,aM] at iE;simp at iE
 rcases C.L1 s (ap7 _) t aK with ⟨k,ok,Ex,al,au,aJ,bE,c1⟩ | ⟨al,au⟩
 . rw [SW] at c1;rcases w1 t aK with ⟨bs,lh,IL,cq,cx,eE,i_,oV⟩ | ⟨cq,_⟩
   . have:=afF k bs ok lh au cx al (I.um bs cq) aJ eE;subst this;rw [bE] at i_;cases i_;rw [c1];exact oV
   . exact absurd aJ (cq k ok (c8 k (ap5.1 au).1 al) au)
 . rw [SW] at au;rcases w1 t aK with ⟨bs,lh,IL,cq,cx,eE,i_,oV⟩ | ⟨_,cx⟩
   . exact absurd eE (al bs lh (I.um bs cq) cx)
   . rw [au];exact cx
theorem QW {rd:Option Nat} {D:List Deferred} {aC:Fr} (bI:et P) (cX:∀i,hb P (calls i)) (dJ:∀i,hs P (calls i)) (C:Cert P ay ops calls es aU a1 c2 aF eF order aI N M false) {gR:Env} {Q:Exit->Act->World->Prop}
 (cD:N=ops.size->∀az bn w',gR.le az->RegRel0 az ay c2 bn->bn.defers=D->bc aC az aF w'->Q .normal bn w')
 (hg:∀az bn w' x v ab,gR.le az->N<ops.size->ops.size<=M->(∃i0 gz,ops[i0]? =some gz/\posOf aI i0=N/\(cG P ay ops gz).run (calls i0) c2 aF=.cL v ab)->RegRel0 az ay (pq aU ops.toList) bn->bn.defers=D->Rel az v x->bc aC az ab w'->Q (.panic (qS x)) bn w')
 (dN:M<ops.size->∀(fuel:Nat) (listed:Array Bool) az bn w',(List.range ops.size).countP (fun i=>!listed.getD i false)<=fuel->listed.size=ops.size->q_ ops (fun k=>listed.getD k false=true)->(∀k,k<ops.size->(listed.getD k false=true↔posOf aI k<N))->
   gR.le az->RegRel0 az ay c2 bn->bn.defers=D->bc aC az aF w'->wpAnyIn (cc rd) 0 P .any ops Q fuel listed bn w'):∀(fuel:Nat) (listed:Array Bool) (a:Act) (w:World),(List.range ops.size).countP (fun i=>!listed.getD i false)<=fuel->
 q9 P aC ay ops es aU aF eF aI gR N D listed a w->wpAnyIn (cc rd) 0 P .any ops Q fuel listed a w:=by
 have done:∀(listed:Array Bool) (a:Act) (w:World),q9 P aC ay ops es aU aF eF aI gR N D listed a w->Region.ready .any ops listed=[]->∀i,i<ops.size->listed.getD i false=true:=by
  intro listed a w I aD i
  induction i using Nat.strongRecOn with
  | _ i bd=>
    intro aB;cases gH:listed.getD i false with
    | true=>rfl
    | false=>
      exfalso;have cC:ops[i]? =some ops[i]:=aqr aB;obtain ⟨cP,_,iV,_⟩:=C.nL i _ cC;have:i ∈ Region.ready .any ops listed:=by
       rw [mem_ready];refine ⟨?_,ops[i],cC,fun e he ak=>?_⟩
       . have cu:i<listed.size:=by rw [I.tk];exact aB
         rw [aqx,aqr cu] at gH ⊢;exact gH
       . have aa:=aqu.1 iV e (arM.2 he);rw [yh] at ak;rw [ak] at aa;simp only [ar4,arQ,aqA] at aa;exact bd e.on aa (by omega)
      rw [aD] at this;simp at this
 have Jj:=C.Uu;have full:∀(listed:Array Bool) (a:Act) (w:World),q9 P aC ay ops es aU aF eF aI gR N D listed a w->(∀k,k<ops.size->posOf aI k<N->listed.getD k false=true)->(N=ops.size\/(M<ops.size/\M=N))->
  ∃az,gR.le az/\RegRel0 az ay c2 a/\a.defers=D/\bc aC az aF w:=fun _ _ _ I c8 _=>QM C Jj I c8
 have finish:∀(listed:Array Bool) (a:Act) (w:World),q9 P aC ay ops es aU aF eF aI gR N D listed a w->Region.ready .any ops listed=[]->Q .normal a w:=by
  intro listed a w I aD;have c8:=done listed a w I aD;have Jk:N=ops.size:=by
   rcases arv N ops.size with aN | kd
   . exfalso;obtain ⟨i,wN,oF⟩:=C.l5 N aN;have:=I.um i (c8 i wN);omega
   . exact Nat.le_antisymm C.CB kd
  obtain ⟨az,g1,g2,g3,g4⟩:=full listed a w I (fun k aA _=>c8 k aA) (.inl Jk);exact cD Jk az a w g1 g2 g3 g4
 intro fuel
 induction fuel with
 | zero=>
   intro listed a w av I;have c8:∀i,i<ops.size->listed.getD i false=true:=by
    intro i aB;have a1:(List.range ops.size).countP (fun i=>!listed.getD i false)=0:=by omega
    rw [List.countP_eq_zero] at a1;simpa using a1 i (arF.2 aB)
   have aD:Region.ready .any ops listed=[]:=by
    cases ar:Region.ready .any ops listed with
    | nil=>rfl
    | cons j agn=>
      exfalso;have bG:j ∈ Region.ready .any ops listed:=by rw [ar];simp
      rw [mem_ready] at bG;obtain ⟨aa,o,ae,_⟩:=bG;have:=c8 j (ap5.1 ae).1;rw [uB] at this;rw [aqx,this] at aa;simp at aa
   exact ⟨aD,finish listed a w I aD⟩
 | succ fuel bd=>
   intro listed a w av I;by_cases w4:M<ops.size/\∀k,k<ops.size->posOf aI k<N->listed.getD k false=true
   . obtain ⟨wB,c8⟩:=w4;obtain ⟨az,g1,g2,g3,g4⟩:=full listed a w I c8 (.inr ⟨wB,(C.tail wB).1⟩);exact dN wB (fuel+1) listed az a w av I.tk I.down (fun k aA=>⟨I.um k,c8 k aA⟩) g1 g2 g3 g4
   have Kg:∀i,i ∈ Region.ready .any ops listed->posOf aI i<M:=by
    intro i aB;have oF:=aB;rw [mem_ready] at oF;obtain ⟨aa,o,ae,wH⟩:=oF;have ez:i<ops.size:=(ap5.1 ae).1;rcases arv M ops.size with wB | wB
    . obtain ⟨E1,zf⟩:=C.tail wB;rcases arv (posOf aI i) N with aN | kd
      . omega
      . exfalso;refine w4 ⟨wB,fun k aA JQ=>?_⟩;obtain ⟨cP,mW,_⟩:=C.nL i o ae;have ak:=zf i o cP ae kd mW k aA JQ;have yK:q_ ops fun k=>listed.getD k false=true\/k=i:=by
         intro k ok e aA bx he ak;rcases aA with aA | rfl
         . exact .inl (I.down k ok e aA bx he ak)
         . rw [ae] at bx;cases bx;exact .inl (wH e (arM.1 he) (by rw [yh];exact ak))
        rcases Cv yK ops.toList [] (fun j=>by simp) (fun k m j aA=>by simp at aA) i cP k mW ak (.inr rfl) with h | h
        . exact h
        . subst h;omega
    . have:=(C.iK i ez).1;omega
   refine ⟨fun aD=>finish listed a w I aD,fun i aB=>?_⟩;refine QX bI cX dJ C I aB (Kg i aB) (fun h=>by cases h) (fun bn w' Hh=>bd _ bn w' ?_ Hh) hg;have oF:=aB;rw [mem_ready] at oF;obtain ⟨aa,o,ae,_⟩:=oF;have ez:i<ops.size:=(ap5.1 ae).1;have gH:i<listed.size:=by rw [I.tk];exact ez
   have uO:listed.getD i false=false:=by rw [aqx,aqr gH] at aa ⊢;exact aa
   have:=Ej (fun k=>!listed.getD k false) (fun k=>!(listed.setIfInBounds i true).getD k false) (List.range ops.size)
    (fun k _ aA=>by
      simp only [arb] at aA ⊢;cases ar:listed.getD k false with
      | false=>rfl
      | true=>
        have:=(fW (k:=k) gH).2 (.inr ar);rw [aA] at this;cases this)
    ⟨i,arF.2 ez,by simp [uO],by have:=(fW (k:=i) gH).2 (.inl rfl);simp [this]⟩
   omega
theorem ag.set_comm (h:ag) {b bR:aQ} (cK:b≠bR) (k bs:b8):(h.set b k).set bR bs=(h.set bR bs).set b k:=by unfold ag.set;simp only;rw [T.put_comm _ _ _ _ _ _ (fun e=>cK e.symm)]
theorem Ms {o:Oper} {x:Operand} (h:tH o=some x):∃t y,o.op=.store t x y/\o.dst=none/\o.guard=none:=by
 unfold tH at h
 split at h
 case h_2=>cases h
 rename_i t W6 y aY
 split at h
 case h_2=>cases h
 rename_i aq
 split at h
 case h_2=>cases h
 rename_i aL;cases h;exact ⟨t,y,aY,aq,aL⟩
theorem aiI {h ab:ag} {b:aQ} {off:Nat} {ah:List V} (he:lay h b off ah=some ab):∃k,ab=h.set b k/\∀H:ag,H.get b=h.get b->lay H b off ah=some (H.set b k):=by
 unfold lay at he ⊢;cases aL:h.get b<;>rw [aL] at he<;>simp only [b8.on] at he<;>try (cases he;done)
 obtain ⟨av,aa⟩:=eM he;cases aa;refine ⟨_,rfl,fun H ml=>?_⟩;rw [ml];simp only [b8.on,av,ap8]
theorem QT {all:Array Oper} {o:Oper} {x:Operand} {call:dX} {r:bJ} {h ab:ag} {v:V} (ao:tH o=some x) (he:(cG P ay all o).run call r h=.val v ab):
 ∃b off k,(bX x).run (dq r (b3 all o))=.ptr b off/\ab=h.set b k/\∀H:ag,H.get b=h.get b->(cG P ay all o).run call r H=.val v (H.set b k):=by
 obtain ⟨t,y,aY,aq,aL⟩:=Ms ao;obtain ⟨aa,ae⟩:=kV he;have key:cG P ay all o=⟨jD none (fw P o) (b3 all o)⟩:=by unfold cG;rw [show (e0 ay o.dst&&jv (b3 all o))=true from by rw [aa,ae];rfl,aL];rfl
 rw [key] at he ⊢;simp only [jD] at he ⊢;have wE:∀H,(fw P o).run call (dq r (b3 all o)) H=ho .bad ((tG P t).run H ((bX x).run (dq r (b3 all o))) ((bX y).run (dq r (b3 all o)))):=by intro H;unfold fw;rw [aY]
 rw [wE] at he;cases aO:(tG P t).run h ((bX x).run (dq r (b3 all o))) ((bX y).run (dq r (b3 all o))) with
 | none=>rw [aO] at he;cases he
 | some aM=>
   rw [aO] at he;simp only [ho,ba.val.injEq] at he;obtain ⟨rfl,rfl⟩:=he;unfold tG at aO;cases aK:bf P t with
   | none=>rw [aK] at aO;cases aO
   | some aS=>
     rw [aK] at aO;simp only [xE] at aO;obtain ⟨b,off,ai,bw⟩:=zL aO;obtain ⟨av,cw⟩:=eM bw;obtain ⟨k,cd,cn⟩:=aiI cw;refine ⟨b,off,k,ai,cd,fun H ml=>?_⟩;rw [wE];unfold tG;rw [aK];simp only [xE,ai,V.jK,av,ap8,cn H ml,ho]
theorem zS {listed:Array Bool} (iV:∀i o,ops[i]? =some o->nr i o=true) (cu:listed.size=ops.size) (aD:Region.ready .any ops listed=[]):∀i,i<ops.size->listed.getD i false=true:=by
 intro i
 induction i using Nat.strongRecOn with
 | _ i bd=>
   intro aB;cases gH:listed.getD i false with
   | true=>rfl
   | false=>
     exfalso;have cC:ops[i]? =some ops[i]:=aqr aB;have iV:=iV i _ cC;have:i ∈ Region.ready .any ops listed:=by
      rw [mem_ready];refine ⟨?_,ops[i],cC,fun e he ak=>?_⟩
      . have aO:i<listed.size:=by rw [cu];exact aB
        rw [aqx,aqr aO] at gH ⊢;exact gH
      . have aa:=aqu.1 iV e (arM.2 he);rw [yh] at ak;rw [ak] at aa;simp only [ar4,arQ,aqA] at aa;exact bd e.on aa (by omega)
     rw [aD] at this;simp at this
theorem xy {listed:Array Bool} {i:Nat} (aot:listed.size=ops.size) (aB:i ∈ Region.ready .any ops listed):i<ops.size/\¬listed.getD i false=true:=by rw [mem_ready] at aB;obtain ⟨aa,o,ae,_⟩:=aB;refine ⟨(ap5.1 ae).1,fun h=>?_⟩;rw [uB] at h;rw [aqx,h] at aa;simp at aa
theorem MD {rd:Option Nat} {aC:Fr} (bI:et P) (cX:hb P call) (dJ:hs P call) (iV:∀i o,ops[i]? =some o->nr i o=true) {i:Nat} {o:Oper} (cC:ops[i]? =some o) (aq:o.dst=none) {r:bJ} {h ab:ag} {v:V}
 (he:(cG P ay ops o).run call r h=.val v ab) {Q:Exit->Act->World->Prop} {E:Env} {a:Act} {w:World} (k:fv E ay r a) (s:bc aC E h w) (cD:∀az w',E.le az->bc aC az ab w'->Q .normal a w')
 {listed:Array Bool} (cu:listed.size=ops.size) (c8:∀j,j<ops.size->(listed.getD j false=true↔j≠i)) (fuel:Nat) (aF:1<=fuel):wpAnyIn (cc rd) 0 P .any ops Q fuel listed a w:=by
 have ez:i<ops.size:=(ap5.1 cC).1;have gH:i<listed.size:=by rw [cu];exact ez
 cases fuel with
 | zero=>omega
 | succ fuel=>
   refine ⟨fun aD=>absurd (zS iV cu aD i ez) (fun h=>((c8 i ez).1 h) rfl),fun j bG=>?_⟩;obtain ⟨tf,tg⟩:=xy cu bG;have aeF:j=i:=by
    rcases Nat.decEq j i with cK | he
    . exact absurd ((c8 j tf).2 cK) tg
    . exact he
   subst aeF;refine ry bI cX dJ cC he k.size (fun t aK=>k.aj t (aqQ (aqu.1 (kV he).2 t aK))) s fun az x w' al au aJ=>?_;rw [aq];refine wpAnyIn_done ?_ (cD az w' al aJ) fuel;cases aD:Region.ready .any ops (listed.setIfInBounds j true) with
   | nil=>rfl
   | cons m ms=>
     exfalso;have hm:m ∈ Region.ready .any ops (listed.setIfInBounds j true):=by rw [aD];simp
     obtain ⟨m1,m2⟩:=xy (by simp [cu]) hm;refine m2 ((fW gH).2 ?_);by_cases SE:m=j
     . exact .inl SE
     . exact .inr ((c8 m m1).2 SE)
theorem anc {rd:Option Nat} {aC:Fr} (bI:et P) (cX:hb P call) (dJ:hs P call) (iV:∀i o,ops[i]? =some o->nr i o=true) {i j:Nat} {o p:Oper} (cC:ops[i]? =some o) (oG:ops[j]? =some p) (rR:i≠j) (aq:o.dst=none) (m_:p.dst=none)
 {r:bJ} {h aa fF ae:ag} {v cQ u g_:V} (he:(cG P ay ops o).run call r h=.val v aa) (ai:(cG P ay ops p).run call r aa=.val u ae) (gS:(cG P ay ops p).run call r h=.val g_ fF) (eG:(cG P ay ops o).run call r fF=.val cQ ae)
 {Q:Exit->Act->World->Prop} {E:Env} {a:Act} {w:World} (k:fv E ay r a) (s:bc aC E h w) (cD:∀az w',E.le az->bc aC az ae w'->Q .normal a w')
 {listed:Array Bool} (cu:listed.size=ops.size) (c8:∀m,m<ops.size->(listed.getD m false=true↔(m≠i/\m≠j))) (fuel:Nat) (aF:2<=fuel):wpAnyIn (cc rd) 0 P .any ops Q fuel listed a w:=by
 have ez:i<ops.size:=(ap5.1 cC).1;have BM:j<ops.size:=(ap5.1 oG).1;have k8:∀{q:Oper} {H gL:ag} {z:V},(cG P ay ops q).run call r H=.val z gL->∀t ∈ b3 ops q,Rel E (T.get .bad (aG t) r) (a.tmps.getD t undef):=
  fun he t aK=>k.aj t (aqQ (aqu.1 (kV he).2 t aK))
 cases fuel with
 | zero=>omega
 | succ fuel=>
   refine ⟨fun aD=>absurd (zS iV cu aD i ez) (fun h=>((c8 i ez).1 h).1 rfl),fun m hm=>?_⟩;obtain ⟨m1,m2⟩:=xy cu hm;have ih:m=i\/m=j:=by
    rcases Nat.decEq m i with cK | he
    . rcases Nat.decEq m j with ae0 | eu
      . exact absurd ((c8 m m1).2 ⟨cK,ae0⟩) m2
      . exact .inr eu
    . exact .inl he
   rcases ih with rfl | rfl
   . refine ry bI cX dJ cC he k.size (k8 he) s fun az x w' al au aJ=>?_;rw [aq];have gH:m<listed.size:=by rw [cu];exact ez
     refine MD bI cX dJ iV oG m_ ai (k.mono al) aJ (fun bO bN cq cx=>cD bO bN (al.trans cq) cx) (by simp [cu]) (fun z bl=>?_) fuel (by omega);rw [fW gH,c8 z bl];constructor
     . rintro (rfl | h)
       . exact rR
       . exact h.2
     . intro h;by_cases Cc:z=m
       . exact .inl Cc
       . exact .inr ⟨Cc,h⟩
   . refine ry bI cX dJ oG gS k.size (k8 gS) s fun az x w' al au aJ=>?_;rw [m_];have gH:m<listed.size:=by rw [cu];exact BM
     refine MD bI cX dJ iV cC aq eG (k.mono al) aJ (fun bO bN cq cx=>cD bO bN (al.trans cq) cx) (by simp [cu]) (fun z bl=>?_) fuel (by omega);rw [fW gH,c8 z bl];constructor
     . rintro (rfl | h)
       . exact fun e=>rR e.symm
       . exact h.1
     . intro h;by_cases Cc:z=m
       . exact .inl Cc
       . exact .inr ⟨h,Cc⟩
theorem W0 {rd:Option Nat} {id:Nat} {a:Act} {w:World} {Q:Exit->Act->World->Prop} (hm:P.follows .mixedOrders=true)
 (h:wpAnyIn (cc rd) 0 P .any ops Q ops.size (Array.replicate ops.size false) a {w with drawn:=w.drawn+1}):(Code.region id ops true).wpIn (cc rd) 0 P Q a w:=by
 refine wpIn_region_draw fun t=>?_;rw [hm];exact wpAnyIn_sound _ _ _ _ _ h
theorem MH {r bb:bJ}:∀{rs:List Nat},(∀t ∈ rs,T.get .bad (aG t) bb=T.get .bad (aG t) r)->dq bb rs=dq r rs
 | [],_=>rfl
 | t::cM,h=>by simp only [dq];rw [h t (by simp),MH (rs:=cM) fun u hu=>h u (by simp [hu])]
theorem abJ {all:Array Oper} {o:Oper} {call:dX} {r bb:bJ} (h:∀t ∈ b3 all o,T.get .bad (aG t) bb=T.get .bad (aG t) r) (H:ag):(cG P ay all o).run call bb H=(cG P ay all o).run call r H:=by
 unfold cG;cases av:(e0 ay o.dst&&jv (b3 all o)) with
 | false=>rfl
 | true=>
   simp only [ap8];cases aL:o.guard with
   | none=>simp only [jD,MH h]
   | some oK=>
     obtain ⟨j,want⟩:=oK;simp only;cases all[j]? with
     | none=>rfl
     | some g=>
       simp only;cases g.dst with
       | none=>rfl
       | some d=>
         simp only;cases (Nat.blt d ay&&Nat.ble d top) with
         | false=>rfl
         | true=>simp only [ap8,jD,MH h]
theorem anb {rd:Option Nat} {aC:Fr} (bI:et P) (cX:hb P call) (dJ:hs P call) (iV:∀i o,ops[i]? =some o->nr i o=true) {l i j:Nat} {b o p:Oper} (wS:ops[l]? =some b) (cC:ops[i]? =some o) (oG:ops[j]? =some p)
 (gH:l≠i) (Sx:l≠j) (rR:i≠j) (aq:o.dst=none) (m_:p.dst=none) {r a8:bJ} {h aa fF ae:ag} {z v cQ u g_:V}
 (ak:∀H,(cG P ay ops b).run call r H=.val z H) (w0:a8=(fQ b.dst).run r z) (ze:∀t ∈ b3 ops p,T.get .bad (aG t) a8=T.get .bad (aG t) r)
 (he:(cG P ay ops o).run call a8 h=.val v aa) (ai:(cG P ay ops p).run call a8 aa=.val u ae) (gS:(cG P ay ops p).run call a8 h=.val g_ fF) (eG:(cG P ay ops o).run call a8 fF=.val cQ ae)
 {Q:Exit->Act->World->Prop} {E:Env} {a:Act} {w:World} (k:fv E ay r a) (s:bc aC E h w) (cD:∀az bn w',E.le az->fv az ay a8 bn->bc aC az ae w'->Q .normal bn w')
 {listed:Array Bool} (cu:listed.size=ops.size) (Bt:q_ ops fun k=>listed.getD k false=true) (afJ:∀cP,(eX [] ops.toList)[i]? =some cP->ga cP l=true) (mW:∃cP,(eX [] ops.toList)[i]? =some cP)
 (c8:∀m,m<ops.size->(listed.getD m false=true↔(m≠l/\m≠i/\m≠j))) (fuel:Nat) (aF:3<=fuel):wpAnyIn (cc rd) 0 P .any ops Q fuel listed a w:=by
 have rT:l<ops.size:=(ap5.1 wS).1;have ez:i<ops.size:=(ap5.1 cC).1;have BM:j<ops.size:=(ap5.1 oG).1;have k8:∀{E:Env} {a:Act} {q:Oper} {R:bJ} {H gL:ag} {z:V},fv E ay R a->(cG P ay ops q).run call R H=.val z gL->∀t ∈ b3 ops q,Rel E (T.get .bad (aG t) R) (a.tmps.getD t undef):=
  fun k he t aK=>k.aj t (aqQ (aqu.1 (kV he).2 t aK))
 have Ux:∀(L:Array Bool),(q_ ops fun k=>L.getD k false=true)->¬L.getD l false=true->i ∈ Region.ready .any ops L->False:=by
  intro L ady qz h9;rw [mem_ready] at h9;obtain ⟨_,b_,hP,wH⟩:=h9;rw [cC] at hP;cases hP;obtain ⟨cP,mW⟩:=mW;have yK:q_ ops fun k=>L.getD k false=true\/k=i:=by
   intro k ok e aA bx he ak;rcases aA with aA | rfl
   . exact .inl (ady k ok e aA bx he ak)
   . rw [cC] at bx;cases bx;exact .inl (wH e (arM.1 he) (by rw [yh];exact ak))
  rcases Cv yK ops.toList [] (fun j=>by simp) (fun k m j aA=>by simp at aA) i cP l mW (afJ cP mW) (.inr rfl) with h | h
  . exact qz h
  . exact gH h
 have abO:∀m,m ∈ Region.ready .any ops listed->q_ ops fun k=>(listed.setIfInBounds m true).getD k false=true:=by
  intro m hm k ok e aA bx he ak;have kg:=hm;rw [mem_ready] at kg;obtain ⟨_,UP,SL,wH⟩:=kg;have BU:m<listed.size:=by rw [cu];exact (ap5.1 SL).1
  rw [fW BU] at aA ⊢;rcases aA with rfl | aA
  . rw [SL] at bx;cases bx;exact .inr (wH e (arM.1 he) (by rw [yh];exact ak))
  . exact .inr (Bt k ok e aA bx he ak)
 cases fuel with
 | zero=>omega
 | succ fuel=>
   refine ⟨fun aD=>absurd (zS iV cu aD i ez) (fun h=>((c8 i ez).1 h).2.1 rfl),fun m hm=>?_⟩;obtain ⟨m1,m2⟩:=xy cu hm;have ih:m=l\/m=j:=by
    rcases Nat.decEq m l with cg | ax
    . rcases Nat.decEq m j with dv | aH
      . rcases Nat.decEq m i with n3 | bA
        . exact absurd ((c8 m m1).2 ⟨cg,n3,dv⟩) m2
        . subst bA;exact (Ux listed Bt (fun h=>((c8 l rT).1 h).1 rfl) hm).elim
      . exact .inr aH
    . exact .inl ax
   rcases ih with rfl | rfl
   . -- p first
     have mq:m<listed.size:=by rw [cu];exact rT
     refine ry bI cX dJ wS (ak h) k.size (k8 k (ak h)) s fun az x w' al au aJ=>?_;have cd:fv az ay a8 (a.put b.dst x):=by rw [w0];exact (k.mono al).put (kV (ak h)).1 au
     refine anc bI cX dJ iV cC oG rR aq m_ he ai gS eG cd aJ (fun bO bN cq cx=>cD bO _ bN (al.trans cq) (cd.mono cq) cx) (by simp [cu]) (fun y a6=>?_) fuel (by omega);rw [fW mq,c8 y a6];constructor
     . rintro (rfl | h)
       . exact ⟨gH,Sx⟩
       . exact h.2
     . intro h;by_cases Ca:y=m
       . exact .inl Ca
       . exact .inr ⟨Ca,h⟩
   . -- q first
     have mq:m<listed.size:=by rw [cu];exact BM
     have gI:(cG P ay ops p).run call r h=.val g_ fF:=by rw [<-abJ ze];exact gS
     have adz:=abO m hm;refine ry bI cX dJ oG gI k.size (k8 k gI) s fun az x w' al au aJ=>?_;rw [m_];have w3:(listed.setIfInBounds m true).size=ops.size:=by simp [cu]
     cases fuel with
     | zero=>omega
     | succ fuel=>
       refine ⟨fun aD=>absurd (zS iV w3 aD i ez) (fun h=>?_),fun y a6=>?_⟩
       . rcases (fW mq).1 h with e | h
         . exact rR e
         . exact ((c8 i ez).1 h).2.1 rfl
       obtain ⟨dU,gn⟩:=xy w3 a6;have afR:y=l:=by
        rcases Nat.decEq y l with cg | ax
        . rcases Nat.decEq y i with n3 | bA
          . exfalso;refine gn ((fW mq).2 ?_);by_cases Ca:y=m
            . exact .inl Ca
            . exact .inr ((c8 y dU).2 ⟨cg,n3,Ca⟩)
          . subst bA;refine (Ux _ adz (fun h=>?_) a6).elim;rcases (fW mq).1 h with e | h
            . exact Sx e
            . exact ((c8 l rT).1 h).1 rfl
        . exact ax
       subst afR;have bs:=k.mono al;refine ry bI cX dJ wS (ak fF) bs.size (k8 bs (ak fF)) aJ fun bO er bN t1 t2 t3=>?_;have cd:fv bO ay a8 (a.put b.dst er):=by rw [w0];exact (bs.mono t1).put (kV (ak h)).1 t2
       have J0:y < (listed.setIfInBounds m true).size:=by rw [w3];exact rT
       refine MD bI cX dJ iV cC aq eG cd t3 (fun iP ly cq cx=>cD iP _ ly (al.trans (t1.trans cq)) (cd.mono cq) cx) (by simp [cu]) (fun g aL=>?_) fuel (by omega);rw [fW J0,fW mq,c8 g aL];constructor
       . rintro (rfl | rfl | h)
         . exact gH
         . exact fun e=>rR e.symm
         . exact h.2.1
       . intro h;by_cases ax:g=y
         . exact .inl ax
         . by_cases aH:g=m
           . exact .inr (.inl aH)
           . exact .inr (.inr ⟨ax,h,aH⟩)
theorem ID {rd:Option Nat} {aC:Fr} {E:Env} {h:ag} {w:World} {id:Nat} (c':P.follows .mixedOrders=true) (bI:et P) (cX:hb P call) (dJ:hs P call) {r:bJ} {a:Act}
 {Q:Exit->Act->World->Prop} (k:fv E ay r a) (s:bc aC E h w) {es:List e5} {eJ:bJ} {a_:ag} {order aI eF:List Nat} {N M:Nat} (C:Cert P ay ops (fun _=>call) es r h eJ a_ eF order aI N M false)
 (cD:N=ops.size->∀az bn w',E.le az->fv az ay eJ bn->bc aC az a_ w'->Q .normal bn w')
 (hg:∀az bn w' x v ab,E.le az->N<ops.size->ops.size<=M->(∃i0 gz,ops[i0]? =some gz/\posOf aI i0=N/\(cG P ay ops gz).run call eJ a_=.cL v ab)->fv az ay (pq r ops.toList) bn->Rel az v x->bc aC az ab w'->Q (.panic (qS x)) bn w')
 (dN:M<ops.size->∀(fuel:Nat) (listed:Array Bool) az bn w',(List.range ops.size).countP (fun i=>!listed.getD i false)<=fuel->listed.size=ops.size->q_ ops (fun k=>listed.getD k false=true)->(∀k,k<ops.size->(listed.getD k false=true↔posOf aI k<N))->
   E.le az->fv az ay eJ bn->bc aC az a_ w'->wpAnyIn (cc rd) 0 P .any ops Q fuel listed bn w'):
 (Code.region id ops true).wpIn (cc rd) 0 P Q a w:=by
 have dE:∀k,¬(Array.replicate ops.size false).getD k false=true:=by
  intro k;rw [uB,Array.getElem?_replicate]
  split<;>simp
 have kC:Holds aC aC es a_ aI (kp ops es a_ aI (Array.replicate ops.size false) 0):=
  ⟨rfl,fun _ _=>rfl,fun k aA=>(by obtain ⟨_,_,_,_,a1⟩:=aA;omega),fun k bs aA=>(by obtain ⟨_,_,_,_,a1⟩:=aA;omega)⟩
 obtain ⟨gm,eb,g1,g2,g3,g4,g5,g6⟩:=C.advance N 0 (by omega) (fun k o _ _ _=>dE k) aC kC (E:=E) (w:={w with drawn:=w.drawn}) (by rw [C.a1];exact s.same rfl rfl rfl rfl);have k2:∀(az:Env) (bn:Act),E.le az->bn.defers=a.defers->∀(bb:bJ),T.get .bad eZ bb=T.get .bad eZ r->l_ az (T.get .bad eZ bb) bn.defers:=fun az bn he aq bb qD=>by rw [qD,aq];exact k.defers.mono he
 have Fa:T.get .bad eZ eJ=T.get .bad eZ r:=by have:=C.IE N (ap7 _);have J9:es[N]? =none:=aqI (by rw [C.len];exact ap7 _);simpa [ey,J9] using this
 refine W0 c' (QW bI (fun _=>cX) (fun _=>dJ) C (gR:=E) (D:=a.defers)
  (fun aW az bn w' al au aJ bE=>cD aW az bn w' al ⟨au,k2 az bn al aJ eJ Fa⟩ bE)
  (fun az bn w' x v ab al au Vy aJ bE c1 eh ju=>hg az bn w' x v ab al au Vy aJ ⟨bE,k2 az bn al c1 _ EC⟩ eh ju)
  (fun g0 fuel listed az bn w' g1 g2 g3 g4 al au aJ bE=>dN g0 fuel listed az bn w' g1 g2 g3 g4 al ⟨au,k2 az bn al aJ eJ Fa⟩ bE) ops.size _ a _ ?_ ?_)
 . exact aqK asi (by simp)
 . refine ⟨by simp,k.size,rfl,fun bs aA=>absurd aA (dE bs),fun bs o e aA=>absurd aA (dE bs),E,gm,eb,Env.le.refl E,g1,g3,fun bs o aa ae=>⟨fun h=>absurd h (dE bs),fun h=>by have:=g4 bs o aa ae (arj _);omega⟩,
    fun bs o _ _ h=>absurd h (dE bs),g5,?_,fun t aK=>.inr ⟨fun bs o aA=>absurd aA (dE bs),k.aj t aK⟩⟩
   exact g6.same rfl rfl rfl rfl
theorem U_ {n:Nat} {order aI:List Nat} (h':l6 n order aI=true):order.length=n/\(∀k,k<n->posOf aI k<n/\order[posOf aI k]? =some k)/\∀p,p<n->∃i,i<n/\posOf aI i=p:=by
 unfold l6 at h';simp only [ap2,aqE] at h';obtain ⟨pB,y5,BW,BX⟩:=h';refine ⟨pB,fun k aA=>?_,fun p ai=>?_⟩
 . have aL:aI[k]? =some (posOf aI k):=by
    unfold posOf;rw [ap4 (by omega)];rfl
   have:=vd BW aL;rw [aqP] at this;exact ⟨by have:=(aqp.1 this).1;omega,this⟩
 . have aL:order[p]? =some (order[p]'(by omega)):=ap4 (by omega);have:=vd BX aL;rw [aqP] at this;refine ⟨order[p]'(by omega),by have:=(aqp.1 this).1;omega,?_⟩;unfold posOf;rw [this];rfl
theorem am_ {order aI:List Nat} (aF:C9 P ops order aI=true):3<=ops.size/\∀i o,ops[i]? =some o->∃cP,(eX [] ops.toList)[i]? =some cP/\nr i o=true/\
 (posOf aI i<ops.size-3->∀k ok,ops[k]? =some ok->posOf aI k<ops.size-3->∃mk,(eX [] ops.toList)[k]? =some mk/\pQ i cP (b3 ops o) o.dst k mk ok (Nat.blt (posOf aI k) (posOf aI i))=true/\(e9 P o.op=true->ep P ok=true->posOf aI k<posOf aI i->ga cP k=true))/\
 (¬posOf aI i<ops.size-3->G7 P ops order aI (ops.size-3) i cP o=true):=by
 unfold C9 at aF;simp only [ap2,aqj] at aF;refine ⟨aF.1,fun i o aB=>?_⟩;obtain ⟨cP,aa,ae⟩:=q7 aF.2 i o (by simpa using aB);simp only [aqP,ap2] at ae;refine ⟨cP,aa,ae.1,fun aN k ok aA mU=>?_,fun kd=>?_⟩
 . have aM:=ae.2;rw [show Nat.blt (posOf aI i) (ops.size-3)=true from by rw [aqA];exact aN] at aM;simp only [ap8] at aM;obtain ⟨mk,cd,cn⟩:=q7 aM k ok (by simpa using aA);simp only [aqP] at cn;rw [show Nat.blt (posOf aI k) (ops.size-3)=true from by rw [aqA];exact mU] at cn;simp only [ap8,ap2] at cn;refine ⟨mk,cd,cn.1,fun ax aH aN=>?_⟩;have fO:=cn.2;rw [ax,aH,aqY,show Nat.blt (posOf aI k) (posOf aI i)=true from by rw [aqA];exact aN] at fO;exact fO
 . have aM:=ae.2;rw [show Nat.blt (posOf aI i) (ops.size-3)=false from by rw [<-aqF,aqA];exact kd] at aM;exact aM
theorem ana {order aI:List Nat} {N i cP p:Nat} {o CP:Oper} (ai:order[N]? =some p) (mr:ops[p]? =some CP) (h:G7 P ops order aI N i cP o=true):
 (∀k,k<ops.size->posOf aI k<N->ga cP k=true)/\(posOf aI i=N->e9 P o.op=false/\looks o.op=false)/\(posOf aI i≠N->∃x,tH o=some x)/\
 (posOf aI i=N+1->ga cP p=true)/\(posOf aI i=N+2->∀t ∈ b3 ops o,CP.dst≠some t):=by
 unfold G7 at h;rw [ai] at h;simp only [ap2] at h;obtain ⟨⟨aa,ae⟩,aM,bw⟩:=h;refine ⟨fun k aA JQ=>?_,fun e=>?_,fun e=>?_,fun e=>?_,fun e t aK=>?_⟩
 . obtain ⟨mk,cd,cn⟩:=q7 aa k ops[k] (by simp);simp only [aqP] at cn;rw [show Nat.blt (posOf aI k) N=true from by rw [aqA];exact JQ] at cn;exact cn
 . rw [h1,aqf e] at ae;simpa using ae
 . rw [h1,aqa e] at ae;exact Option.isSome_iff_exists.1 ae
 . rw [h1,aqf e] at aM;exact aM
 . rw [h1,aqf e,mr] at bw;simp only at bw;intro aq;rw [aq] at bw;simp only [arb] at bw;rw [show (b3 ops o).contains t=true from by simpa using aK] at bw;cases bw
theorem Jz {es:List e5} {a_:ag} {N p:Nat} (ai:p<=N):cj (es.take N) (cj es a_ N) p=cj es a_ p:=by
 by_cases h:p<N
 . cases he:es[p]? with
   | some e=>simp [cj,h,he]
   | none=>
     have aW:es[N]? =none:=aqI (by have:=List.getElem?_eq_none_iff.1 he;omega);simp [cj,h,he,aW]
 . have:p=N:=by omega
   subst this;simp [cj,List.getElem?_take]
theorem VK {es:List e5} {eJ:bJ} {N p:Nat} (ai:p<=N):ey (es.take N) (ey es eJ N) p=ey es eJ p:=by
 by_cases h:p<N
 . cases he:es[p]? with
   | some e=>simp [ey,h,he]
   | none=>
     have aW:es[N]? =none:=aqI (by have:=List.getElem?_eq_none_iff.1 he;omega);simp [ey,h,he,aW]
 . have:p=N:=by omega
   subst this;simp [ey,List.getElem?_take]
theorem Yx {order:List Nat} {es:List e5} {N i j:Nat} {o p:Oper} {e f:e5} {x y:Operand} (bp:DW ops order es N=true) (aB:order[N]? =some i) (bG:order[N+1]? =some j) (cC:ops[i]? =some o) (oG:ops[j]? =some p)
 (he:es[N]? =some e) (aF:es[N+1]? =some f) (ao:tH o=some x) (a6:tH p=some y) {b c:aQ} {off kJ:Nat} (ak:(bX x).run (dq e.r (b3 ops o))=.ptr b off) (av:(bX y).run (dq f.r (b3 ops p))=.ptr c kJ):b≠c:=by
 unfold DW Mt at bp;simp only [aB,bG,cC,oG,he,aF,ao,a6,ak,av] at bp;intro h;subst h;rw [aQ.Bi] at bp;cases bp
theorem abS {rd:Option Nat} {aC:Fr} {E:Env} {h:ag} {w:World} {id:Nat} (c':P.follows .mixedOrders=true) (bI:et P) (cX:hb P call) (dJ:hs P call) {r:bJ} {a:Act} {order aI:List Nat} (h':l6 ops.size order aI=true) (hO:C9 P ops order aI=true)
 {Q:Exit->Act->World->Prop} (ai:ot aC E ay (Q .normal) Q (IC ops order (fL P ay ops (hV ops order)) (sI P ay ops (eX [] ops.toList) aI (h_ P aI 0 ops.toList) 0 ops.toList) call r h)) (k:fv E ay r a) (s:bc aC E h w):(Code.region id ops true).wpIn (cc rd) 0 P Q a w:=by
 obtain ⟨pB,iK,l5⟩:=U_ h';obtain ⟨ae,hO⟩:=am_ hO;unfold IC at ai;cases cH:(fL P ay ops (hV ops order)).run call r h with
 | fail=>rw [cH] at ai;exact ai.elim
 | cL _ _ _ _ _=>rw [cH] at ai;exact ai.elim
 | ok es eJ a_=>
   rw [cH] at ai;simp only at ai;obtain ⟨N,adL⟩:∃N,N=ops.size-3:=⟨_,rfl⟩;rw [<-adL] at ai hO;cases ar:(DW ops order es (N+1)&&(sI P ay ops (eX [] ops.toList) aI (h_ P aI 0 ops.toList) 0 ops.toList).run call (es.take N) (cj es a_ N)) with
   | false=>rw [ar] at ai;exact ai.elim
   | true=>
     rw [ar] at ai;simp only [ap8] at ai;simp only [ap2] at ar;obtain ⟨E5,Bw⟩:=ar;obtain ⟨al,au,aJ,bE⟩:=vq cH;have hlen:es.length=ops.size:=by rw [al,qQ,pB]
     have inj:∀i j,i<ops.size->j<ops.size->posOf aI i=posOf aI j->i=j:=by intro i j aB bG he;have a:=(iK i aB).2;have b:=(iK j bG).2;rw [he,b] at a;cases a;rfl
     obtain ⟨nf,uD,yL⟩:=l5 N (by omega);obtain ⟨pF,yH,yI⟩:=l5 (N+1) (by omega);obtain ⟨rZ,wz,Bs⟩:=l5 (N+2) (by omega);have BK:ops[nf]? =some ops[nf]:=aqr uD;have Fg:ops[pF]? =some ops[pF]:=aqr yH;have Fh:ops[rZ]? =some ops[rZ]:=aqr wz;have Kd:=(iK nf uD).2;have Kb:=(iK pF yH).2;have Kc:=(iK rZ wz).2;rw [yL] at Kd;rw [yI] at Kb;rw [Bs] at Kc;have zf:∀i o,ops[i]? =some o->¬posOf aI i<N->∃cP,(eX [] ops.toList)[i]? =some cP/\(∀k,k<ops.size->posOf aI k<N->ga cP k=true)/\(posOf aI i=N->e9 P o.op=false/\looks o.op=false)/\(posOf aI i≠N->∃x,tH o=some x)/\
      (posOf aI i=N+1->ga cP nf=true)/\(posOf aI i=N+2->∀t ∈ b3 ops o,ops[nf].dst≠some t):=by
      intro i o aB kd;obtain ⟨cP,b7,_,_,z4⟩:=hO i o aB;exact ⟨cP,b7,ana Kd BK (z4 kd)⟩
     obtain ⟨apj,_,_,am',_⟩:=zf nf _ BK (by omega);obtain ⟨ajp,SC,_,_,am8,af,_⟩:=zf pF _ Fg (by omega);obtain ⟨api,yY,_,_,am9,_,LW⟩:=zf rZ _ Fh (by omega);obtain ⟨Q6,ajk⟩:=am' yL;obtain ⟨apU,Kv⟩:=am8 (by omega);obtain ⟨apV,Kw⟩:=am9 (by omega);have af:=af yI;have LW:=LW Bs;obtain ⟨IK,eA,gk,KS⟩:=bE _ _ (n9 Kd BK);obtain ⟨wj,bC,a2,a3⟩:=bE _ _ (n9 Kb Fg);obtain ⟨Q4,bM,b1,dR⟩:=bE _ _ (n9 Kc Fh);obtain ⟨apL,apY,aj_,QF,aoJ⟩:=Ms Kv;obtain ⟨apM,apZ,apt,QG,aoK⟩:=Ms Kw;have dE:es[N+2+1]? =none:=aqI (by omega);have aeO:cj es a_ (N+2+1)=a_:=by simp [cj,dE]
     have al2:ey es eJ (N+2+1)=eJ:=by simp [ey,dE]
     have adK:cj es a_ N=IK.h:=by simp [cj,eA]
     have alE:ey es eJ N=IK.r:=by simp [ey,eA]
     have adI:cj es a_ (N+1)=wj.h:=by simp [cj,bC]
     have alC:ey es eJ (N+1)=wj.r:=by simp [ey,bC]
     have adJ:cj es a_ (N+1+1)=Q4.h:=by simp [cj,bM]
     have alD:ey es eJ (N+1+1)=Q4.r:=by simp [ey,bM]
     rw [alC] at KS;rw [adI] at gk;rw [QF,alD] at a3;rw [QG,al2] at dR;simp only [fQ] at a3 dR;rw [adJ] at a2;rw [aeO] at b1;obtain ⟨adH,Ji⟩:=we Q6 gk;have Ji:=Ji ajk;obtain ⟨NZ,apu,agp,ak1,V6,anC⟩:=QT Kv a2;obtain ⟨H7,apv,Tv,ak2,amr,anD⟩:=QT Kw b1;have cK:NZ≠H7:=Yx E5 Kb Kc Fg Fh bC bM Kv Kw ak1 ak2;have Jf:=anD wj.h (by rw [V6,ag.ej,aqa cK]);have Br:=anC (wj.h.set H7 Tv) (by rw [ag.ej,aqa (fun e=>cK e.symm)]);have ad2:(wj.h.set H7 Tv).set NZ agp=a_:=by rw [ag.set_comm _ (fun e=>cK e.symm),<-V6,<-amr]
     rw [ad2] at Br;rw [a3] at Jf b1;have w2:eJ=wj.r:=dR.trans a3;have aeX:∀m,m<ops.size->(posOf aI m<N↔(m≠nf/\m≠pF/\m≠rZ)):=by
      intro m hm;have ao8:=(iK m hm).1;constructor
      . intro h;exact ⟨fun e=>by subst e;omega,fun e=>by subst e;omega,fun e=>by subst e;omega⟩
      . rintro ⟨cO,cg,dv⟩;have p_:posOf aI m≠N:=fun e=>cO (inj m nf hm uD (by rw [e,yL]));have bW:posOf aI m≠N+1:=fun e=>cg (inj m pF hm yH (by rw [e,yI]));have b6:posOf aI m≠N+2:=fun e=>dv (inj m rZ hm wz (by rw [e,Bs]));omega
     have ad0:ep P ops[pF]=true:=by unfold ep gU;rw [aj_];rfl
     have ze:∀t ∈ b3 ops ops[rZ],T.get .bad (aG t) wj.r=T.get .bad (aG t) IK.r:=by intro t aK;have zh:t<=top:=aqQ (aqu.1 (kV b1).2 t aK);rw [KS,RQ (kV gk).1 zh,aqa (LW t aK)]
     have ij:∀i o,ops[i]? =some o->posOf aI i<N->∃e,(es.take N)[posOf aI i]? =some e/\(cG P ay ops o).run call e.r e.h=.val e.v (cj (es.take N) (cj es a_ N) (posOf aI i+1))/\ey (es.take N) (ey es eJ N) (posOf aI i+1)=(fQ o.dst).run e.r e.v:=by
      intro i o aY aB;obtain ⟨e,b7,z2,z3⟩:=bE _ o (n9 (iK i (ap5.1 aY).1).2 aY);refine ⟨e,by simp [aB,b7],?_,?_⟩
      . rw [Jz (by omega)];exact z2
      . rw [VK (by omega)];exact z3
     have C:Cert P ay ops (fun _=>call) (es.take N) r h (ey es eJ N) (cj es a_ N) (N::h_ P aI 0 ops.toList) order aI N N false:=
      ⟨by simp [hlen];omega,by omega,ap7 _,iK,l5,by rw [Jz (arj _)];exact au,by rw [VK (arj _)];exact aJ,ij,
        fun i o aY=>by
         obtain ⟨cP,b7,z2,z3,_⟩:=hO i o aY
         exact ⟨cP,b7,z2,fun aB k ok aA JP=>by
          obtain ⟨mk,dU,gn,y3⟩:=z3 aB k ok aA JP
          exact ⟨mk,dU,gn,fun a b c=>.inl (y3 a b c)⟩⟩,
        by simp,
        fun j o aa ae=>aqs _ (by simpa using zu (aI:=aI) (i:=0) (j:=j) (l:=ops.toList) (by simpa using aa) ae),
        fun s aO=>by
         rcases aql.1 aO with rfl | aO
         . exact .inl (.inr ⟨rfl,rfl⟩)
         . rcases u2 aO with h | ⟨j,o,aa,ae,aM⟩
           . exact .inl (.inl (by simpa using h))
           . exact .inr ⟨j,o,by simpa using aa,ae,by simpa using aM⟩,
        fun j o aa ae aM bw=>by
         obtain ⟨e,g1,_⟩:=ij j o aa bw;have S3:=H2 Bw j o (by simpa using aa) ae aM e (by simpa using g1);refine ⟨e,g1,fun s aO hm=>?_⟩;rcases aql.1 aO with rfl | aO
         . have nR:tm P (eX [] ops.toList) ops.toList aI j (((eX [] ops.toList)[j]?).getD 0) (s+1)=true:=by
            unfold tm at hm ⊢;refine MZ (by rw [K7];simp) fun cN mk ok dU gn=>?_;obtain ⟨mk',bD,er⟩:=q7 hm cN ok gn;rw [dU] at bD;cases bD;simp only [aqP] at er ⊢;have bx:ops[cN]? =some ok:=by simpa using gn
            have mU:=(ap5.1 bx).1;by_cases BP:posOf aI cN=s
            . have:cN=nf:=inj cN nf mU uD (by rw [BP,yL]);subst this;rw [BK] at bx;cases bx;have aeZ:ep P ops[cN]=false:=by unfold ep;rw [Q6];rfl
              rw [aeZ];rfl
            . have:Nat.blt (posOf aI cN) (s+1)=Nat.blt (posOf aI cN) s:=by
               rw [aqX,aqA,aqA];omega
              rw [this];exact er
           have h9:s+1 ∈ h_ P aI 0 ops.toList:=by rw [<-yI];simpa using zu (P:=P) (aI:=aI) (i:=0) (j:=pF) (l:=ops.toList) (by simp) ad0
           obtain ⟨ab,g3⟩:=S3 (s+1) h9 (by simpa using nR);refine ⟨call,ab,⟨cX,dJ⟩,?_⟩;have ax:cj (es.take s) (cj es a_ s) (s+1)=cj es a_ s:=by have:(es.take s)[s+1]? =none:=aqI (by simp;omega);simp only [cj,this]
           have aH:cj (es.take s) (cj es a_ s) s=cj es a_ s:=Jz (ap7 _);rw [ax] at g3;rw [aH];exact g3
         . obtain ⟨ab,g3⟩:=S3 s aO (by simpa using hm);exact ⟨call,ab,⟨cX,dJ⟩,g3⟩,
        fun _=>⟨rfl,fun cN ok mk aA kd BT j bG BL=>by obtain ⟨cP,b7,z2,_⟩:=zf cN ok aA (by omega);rw [BT] at b7;cases b7;exact z2 j bG BL⟩,
        fun aa ae=>by omega⟩
     refine ID c' bI cX dJ k s C (fun h=>by omega) (fun _ _ _ _ _ _ _ _ h=>by omega) (fun _ fuel listed az bn w' g1 g2 g3 g4 g5 g6 g7=>?_);rw [alE] at g6;rw [adK] at g7;rw [adH] at a2 Jf Br;refine anb bI cX dJ (fun i o aY=>by obtain ⟨cP,_,z2,_⟩:=hO i o aY;exact z2) BK Fg Fh (fun e=>by rw [e] at yL;omega) (fun e=>by rw [e] at yL;omega) (fun e=>by rw [e] at yI;omega) QF QG
      Ji KS ze a2 b1 Jf Br g6 g7 (fun bO a2 bN cq cx eE=>ai bO a2 bN (g5.trans cq) (by rw [w2];exact cx) eE) g2 g3 (fun cP mW=>by rw [SC] at mW;cases mW;exact af) ⟨ajp,SC⟩ (fun m hm=>(g4 m hm).trans (aeX m hm)) fuel ?_
     have Iu:∀(L:Array Bool) (x:Nat),L.size=ops.size->x<ops.size->¬L.getD x false=true->(List.range ops.size).countP (fun k=>!(L.setIfInBounds x true).getD k false) < (List.range ops.size).countP (fun k=>!L.getD k false):=by
      intro L x c0 ao aW;have zo:x<L.size:=by rw [c0];exact ao
      refine Ej (fun k=>!L.getD k false) (fun k=>!(L.setIfInBounds x true).getD k false) (List.range ops.size) (fun k _ aA=>?_) ⟨x,arF.2 ao,?_,?_⟩
      . simp only [arb] at aA ⊢;cases ar:L.getD k false with
        | false=>rfl
        | true=>
          have:=(fW (k:=k) zo).2 (.inr ar);rw [aA] at this;cases this
      . cases ar:L.getD x false with
        | false=>rfl
        | true=>exact absurd ar aW
      . have:=(fW (k:=x) zo).2 (.inl rfl);simp [this]
     have ajN:¬listed.getD nf false=true:=fun h=>by have:=(g4 nf uD).1 h;omega
     have ajL:¬listed.getD pF false=true:=fun h=>by have:=(g4 pF yH).1 h;omega
     have ajM:¬listed.getD rZ false=true:=fun h=>by have:=(g4 rZ wz).1 h;omega
     have bW:=Iu listed nf g2 uD ajN
     have b6:=Iu (listed.setIfInBounds nf true) pF (by simp [g2]) yH (fun h=>by
      rcases (fW (by rw [g2];exact uD)).1 h with e | h
      . rw [e] at yI;omega
      . exact ajL h)
     have c3:=Iu ((listed.setIfInBounds nf true).setIfInBounds pF true) rZ (by simp [g2]) wz (fun h=>by
      rcases (fW (by simp [g2];exact yH)).1 h with e | h
      . rw [e] at Bs;omega
      . rcases (fW (by rw [g2];exact uD)).1 h with e | h
        . rw [e] at Bs;omega
        . exact ajM h)
     omega
end
section
variable {P:Program} {ay:Nat} {ops:Array Oper} {call:dX}
inductive p2 {α β:Type} (R:α->β->Prop):List α->List β->Prop
 | nil:p2 R [] []
 | cons {a:α} {b:β} {K2:List α} {K3:List β} (h:R a b) (t:p2 R K2 K3):p2 R (a::K2) (b::K3)
def xx (ops:Array Oper) (t:Nat) (listed:Array Bool):Option Nat:=(Region.ready .any ops listed)[t % (Region.ready .any ops listed).length]?
theorem go_succ (fuel t:Nat) (listed:Array Bool):Region.linearise.go .any ops (fuel+1) t listed []=match xx ops t listed with
 | some i=>i::Region.linearise.go .any ops fuel (t / (Region.ready .any ops listed).length) (listed.setIfInBounds i true) []
 | none=>[]:=by
 simp only [Region.linearise.go]
 change (match (Region.ready .any ops listed)[t % (Region.ready .any ops listed).length]? with
  | some i=>Region.linearise.go .any ops fuel (t / (Region.ready .any ops listed).length) (listed.setIfInBounds i true) [i]
  | none=>[].reverse)=_
 unfold xx;cases (Region.ready .any ops listed)[t % (Region.ready .any ops listed).length]? with
 | none=>rfl
 | some i=>
   simp only;rw [linearise_go_acc,List.reverse_singleton,List.singleton_append]
theorem VH {t:Nat} {listed:Array Bool} (h:xx ops t listed=none):Region.ready .any ops listed=[]:=by
 unfold xx at h;cases aD:Region.ready .any ops listed with
 | nil=>rfl
 | cons x xs=>
   rw [aD] at h;have aN:t % (x::xs).length < (x::xs).length:=Nat.mod_lt _ (by simp);rw [ap4 aN] at h;cases h
theorem L0 {t i:Nat} {listed:Array Bool} (h:xx ops t listed=some i):i ∈ Region.ready .any ops listed:=aqv h
theorem count_set {listed:Array Bool} {i:Nat} (cu:listed.size=ops.size) (aB:i<ops.size) (aW:¬listed.getD i false=true):
 (List.range ops.size).countP (fun k=>!(listed.setIfInBounds i true).getD k false) < (List.range ops.size).countP (fun k=>!listed.getD k false):=by
 have aw:i<listed.size:=by rw [cu];exact aB
 refine Ej (fun k=>!listed.getD k false) (fun k=>!(listed.setIfInBounds i true).getD k false) (List.range ops.size) (fun k _ aA=>?_) ⟨i,arF.2 aB,?_,?_⟩
 . simp only [arb] at aA ⊢;cases ar:listed.getD k false with
   | false=>rfl
   | true=>
     have:=(fW (k:=k) aw).2 (.inr ar);rw [aA] at this;cases this
 . cases ar:listed.getD i false with
   | false=>rfl
   | true=>exact absurd ar aW
 . have:=(fW (k:=i) aw).2 (.inl rfl);simp [this]
theorem RR (iV:∀i o,ops[i]? =some o->nr i o=true):∀(fuel t:Nat) (listed:Array Bool),listed.size=ops.size->(List.range ops.size).countP (fun i=>!listed.getD i false)<=fuel->
 (Region.linearise.go .any ops fuel t listed []).Nodup/\(∀k ∈ Region.linearise.go .any ops fuel t listed [],k<ops.size/\¬listed.getD k false=true)/\
  ∀k,k<ops.size->listed.getD k false=true\/k ∈ Region.linearise.go .any ops fuel t listed []
 | 0,t,listed,cu,av=>by
   have e:Region.linearise.go .any ops 0 t listed []=[]:=rfl;rw [e];refine ⟨List.nodup_nil,fun k aA=>by simp at aA,fun k aA=>.inl ?_⟩;have a1:(List.range ops.size).countP (fun i=>!listed.getD i false)=0:=by omega
   rw [List.countP_eq_zero] at a1;simpa using a1 k (arF.2 aA)
 | fuel+1,t,listed,cu,av=>by
   rw [go_succ];cases aD:xx ops t listed with
   | none=>
     simp only;exact ⟨List.nodup_nil,fun k aA=>by simp at aA,fun k aA=>.inl (zS iV cu (VH aD) k aA)⟩
   | some i=>
     simp only;obtain ⟨i1,i2⟩:=xy cu (L0 aD);have aw:i<listed.size:=by rw [cu];exact i1
     have:=count_set cu i1 i2;obtain ⟨g1,g2,g3⟩:=RR iV fuel (t / (Region.ready .any ops listed).length) (listed.setIfInBounds i true) (by simp [cu]) (by omega);refine ⟨asj.2 ⟨fun hm=>(g2 i hm).2 ((fW aw).2 (.inl rfl)),g1⟩,fun k aA=>?_,fun k aA=>?_⟩
     . rcases aql.1 aA with rfl | aA
       . exact ⟨i1,i2⟩
       . exact ⟨(g2 k aA).1,fun h=>(g2 k aA).2 ((fW aw).2 (.inr h))⟩
     . rcases g3 k aA with h | h
       . rcases (fW aw).1 h with rfl | h
         . exact .inr (by simp)
         . exact .inl h
       . exact .inr (by simp [h])
theorem G3 {o:Oper} {os:List Oper} {r:bJ} {h:ag} {es:List e5} {c2:bJ} {aF:ag} (he:(fL P ay ops (o::os)).run call r h=.ok es c2 aF):
 ∃v aa h4,(cG P ay ops o).run call r h=.val v aa/\(fL P ay ops os).run call ((fQ o.dst).run r v) aa=.ok h4 c2 aF/\es=⟨r,h,v⟩::h4:=by
 simp only [fL,C8] at he;cases aa:(cG P ay ops o).run call r h with
 | fail=>rw [aa] at he;cases he
 | cL _ _=>rw [aa] at he;simp only at he;cases hm:mB o.op<;>rw [hm] at he<;>cases he
 | val v a_=>
   rw [aa] at he;simp only at he;cases ae:(fL P ay ops os).run call ((fQ o.dst).run r v) a_ with
   | fail=>rw [ae] at he;cases he
   | cL _ _ _ _ _=>rw [ae] at he;cases he
   | ok h4 a8 aM=>
     rw [ae] at he;simp only [q'.ok.injEq] at he;obtain ⟨rfl,rfl,rfl⟩:=he;exact ⟨v,a_,h4,rfl,ae,rfl⟩
theorem G4 {o:Oper} {os:List Oper} {r:bJ} {h aa:ag} {v:V} {h4:List e5} {c2:bJ} {aF:ag} (a1:(cG P ay ops o).run call r h=.val v aa) (ae:(fL P ay ops os).run call ((fQ o.dst).run r v) aa=.ok h4 c2 aF):
 (fL P ay ops (o::os)).run call r h=.ok (⟨r,h,v⟩::h4) c2 aF:=by
 simp only [fL,C8,a1,ae]
theorem Mq:∀(eA gk:List Oper) {r:bJ} {h:ag} {es:List e5} {c2:bJ} {aF:ag},(fL P ay ops (eA++gk)).run call r h=.ok es c2 aF->
 ∃h4 a8 aa rC,(fL P ay ops eA).run call r h=.ok h4 a8 aa/\(fL P ay ops gk).run call a8 aa=.ok rC c2 aF/\es=h4++rC
 | [],gk,r,h,es,c2,aF,he=>⟨[],r,h,es,rfl,he,rfl⟩
 | o::os,gk,r,h,es,c2,aF,he=>by obtain ⟨v,aa,h4,al,au,rfl⟩:=G3 he;obtain ⟨IV,a8,aM,rC,g1,g2,rfl⟩:=Mq os gk au;exact ⟨⟨r,h,v⟩::IV,a8,aM,rC,G4 al g1,g2,rfl⟩
theorem Mr:∀(eA gk:List Oper) {r a8 c2:bJ} {h aa aF:ag} {h4 rC:List e5},(fL P ay ops eA).run call r h=.ok h4 a8 aa->(fL P ay ops gk).run call a8 aa=.ok rC c2 aF->
 (fL P ay ops (eA++gk)).run call r h=.ok (h4++rC) c2 aF
 | [],gk,r,a8,c2,h,aa,aF,h4,rC,he,ae=>by simp only [fL,q'.ok.injEq] at he;obtain ⟨rfl,rfl,rfl⟩:=he;exact ae
 | o::os,gk,r,a8,c2,h,aa,aF,h4,rC,he,ae=>by obtain ⟨v,aM,IV,al,au,rfl⟩:=G3 he;exact G4 al (Mr os gk au ae)
theorem CH:∀(a b:List Nat),hV ops (a++b)=hV ops a++hV ops b
 | [],b=>rfl
 | x::xs,b=>by simp [hV,CH xs b]
theorem Vz:∀(l:List Oper),(∀o ∈ l,e9 P o.op=false/\looks o.op=false)->∀{r c2:bJ} {h aF:ag} {es:List e5},(fL P ay ops l).run call r h=.ok es c2 aF->
 aF=h/\∀H:ag,∃fg,(fL P ay ops l).run call r H=.ok fg c2 H
 | [],_,r,c2,h,aF,es,he=>by simp only [fL,q'.ok.injEq] at he;obtain ⟨rfl,rfl,rfl⟩:=he;exact ⟨rfl,fun H=>⟨[],rfl⟩⟩
 | o::os,ar,r,c2,h,aF,es,he=>by obtain ⟨v,aa,h4,al,au,rfl⟩:=G3 he;obtain ⟨ax,aH⟩:=ar o (by simp);obtain ⟨d1,d2⟩:=we ax al;subst d1;obtain ⟨g1,g2⟩:=Vz os (fun b_ hP=>ar b_ (by simp [hP])) au;refine ⟨g1,fun H=>?_⟩;obtain ⟨fg,g3⟩:=g2 H;exact ⟨_,G4 (d2 aH H) g3⟩
theorem Cd {o:Oper} {A:xW} (h:mw o=some A):o.op=.insert A.t A.m A.k A.x/\o.dst=none/\o.guard=none:=by
 unfold mw at h
 split at h
 case h_2=>cases h
 rename_i t m k x aY
 split at h
 case h_2=>cases h
 rename_i aq
 split at h
 case h_2=>cases h
 rename_i aL;cases h;exact ⟨aY,aq,aL⟩
theorem Vu {e:dL} {k v:V} {c:Nat}:∀{es:List ca},(∀m ∈ es,e.run k m.k=some false)->ln e k v c es=some (es++[⟨k,v,c⟩],true)
 | [],_=>rfl
 | m::ms,h=>by simp only [ln,h m (by simp),aqe,Vu (es:=ms) fun dd nR=>h dd (by simp [nR]),aqM]
theorem abK {o:Oper} {A:xW} (yW:Ck P A.t=true) (nO:mw o=some A) {r:bJ} {H1 cf:ag} {v:V} (he:(cG P ay ops o).run call r H1=.val v cf) {b:aQ} (ak:(bX A.m).run (dq r (b3 ops o))=.map b):
 ∀(H:ag) es c,H.get b=.mp es c->(∀m ∈ es,(uY P A.t).run ((bX A.k).run (dq r (b3 ops o))) m.k=some false)->
  (cG P ay ops o).run call r H=.val .bad (H.set b (.mp (es++[⟨(bX A.k).run (dq r (b3 ops o)),(bX A.x).run (dq r (b3 ops o)),c⟩]) (c+1))):=by
 obtain ⟨aY,aq,aL⟩:=Cd nO;obtain ⟨aa,ae⟩:=kV he;have key:cG P ay ops o=⟨jD none (fw P o) (b3 ops o)⟩:=by unfold cG;rw [show (e0 ay o.dst&&jv (b3 ops o))=true from by rw [aa,ae];rfl,aL];rfl
 rw [key] at he ⊢;simp only [jD] at he ⊢;have wE:∀H,(fw P o).run call (dq r (b3 ops o)) H=ho .bad ((pY P A.t).run H (.map b) ((bX A.k).run (dq r (b3 ops o))) ((bX A.x).run (dq r (b3 ops o)))):=by intro H;unfold fw;rw [aY];simp only [ak]
 rw [wE] at he;have afG:pY P A.t=⟨kO (uY P A.t)⟩:=by
  cases aO:(pY P A.t).run H1 (.map b) ((bX A.k).run (dq r (b3 ops o))) ((bX A.x).run (dq r (b3 ops o))) with
  | none=>rw [aO] at he;cases he
  | some aM=>
    unfold pY at aO ⊢;unfold uY;cases aK:bf P A.t with
    | none=>rw [aK] at aO;cases aO
    | some aS=>
      rw [aK] at aO;simp only at aO ⊢;cases bZ:aS.bk<;>rw [bZ] at aO<;>simp only at aO ⊢<;>try (cases aO;done)
      rename_i dc kW;cases j2:bf P dc with
      | none=>rw [j2] at aO;cases aO
      | some gP=>
        rw [j2] at aO;simp only at aO ⊢;cases aF:k_ gP.bk with
        | false=>
          unfold Ck at yW;rw [aK] at yW;simp only [bZ,j2,aF] at yW;cases yW
        | true=>rfl
 intro H es c ml aA;rw [wE,afG];simp only [kO,ml,b8.hU,Vu aA,ho,ap8]
theorem agb {o:Oper} {r:bJ} {b:aQ} {m:ca} (h:uW ops r b o=some m):∃A,mw o=some A/\(bX A.m).run (dq r (b3 ops o))=.map b/\m.k=(bX A.k).run (dq r (b3 ops o))/\m.v=(bX A.x).run (dq r (b3 ops o)):=by
 unfold uW at h;cases bp:mw o with
 | none=>rw [bp] at h;cases h
 | some A=>
   rw [bp] at h;simp only at h;cases hm:(bX A.m).run (dq r (b3 ops o))<;>rw [hm] at h<;>simp only at h<;>try (cases h;done)
   obtain ⟨av,aa⟩:=eM h;have:=aQ.mS av;subst this;cases aa;exact ⟨A,rfl,hm,rfl,rfl⟩
def lz (ops:Array Oper) (r:bJ) (b:aQ) (i:Nat) (m:ca):Prop:=∃o,ops[i]? =some o/\uW ops r b o=some m
theorem lz.Iz {r:bJ} {b:aQ} {i:Nat} {m dd:ca} (h:lz ops r b i m) (ab:lz ops r b i dd):m=dd:=by obtain ⟨o,aa,ae⟩:=h;obtain ⟨b_,aM,bw⟩:=ab;rw [aa] at aM;cases aM;rw [ae] at bw;cases bw;rfl
theorem FK {r:bJ} {b:aQ}:∀{is:List Nat} {ms:List ca},w_ ops r b is=some ms->p2 (lz ops r b) is ms
 | [],ms,h=>by simp only [w_,ap3] at h;subst h;exact .nil
 | i::is,ms,h=>by
   simp only [w_] at h;cases aY:ops[i]? with
   | none=>rw [aY] at h;cases h
   | some o=>
     rw [aY] at h;simp only at h;cases hm:uW ops r b o with
     | none=>rw [hm] at h;cases h
     | some m=>
       rw [hm] at h;simp only at h;cases aO:w_ ops r b is with
       | none=>rw [aO] at h;cases h
       | some apl=>
         rw [aO] at h;simp only [ap3] at h;subst h;exact .cons ⟨o,aY,hm⟩ (FK aO)
theorem Ts {x:Option Bool} (h:isFalse x=true):x=some false:=by
 cases x with
 | none=>cases h
 | some b=>cases b<;>simp_all [isFalse]
theorem HU {e:dL} {m:ca}:∀{ms:List ca},DX e m ms=true->∀dd ∈ ms,e.run m.k dd.k=some false/\e.run dd.k m.k=some false
 | [],_,dd,h=>by simp at h
 | x::xs,h,dd,hm=>by
   simp only [DX,ap2] at h;rcases aql.1 hm with rfl | hm
   . exact ⟨Ts h.1,Ts h.2.1⟩
   . exact HU h.2.2 dd hm
theorem NK {r:bJ} {b:aQ} {e:dL}:∀{is:List Nat} {ms:List ca},p2 (lz ops r b) is ms->is.Nodup->AY e ms=true->∀i j m dd,i ∈ is->j ∈ is->i≠j->lz ops r b i m->lz ops r b j dd->e.run m.k dd.k=some false
 | _,_,.nil,_,_,i,_,_,_,aB,_,_,_,_=>by simp at aB
 | _,_,.cons (a:=x) (b:=ew) (K2:=xs) (K3:=ajK) a1 aK,aW,bp,i,j,m,dd,aB,bG,rR,hm,nR=>by
   simp only [AY,ap2] at bp;rw [asj] at aW;have Tj:∀k n,k ∈ xs->lz ops r b k n->n ∈ ajK:=by
    intro k n aA aeK;have gen:∀{is:List Nat} {ms:List ca},p2 (lz ops r b) is ms->k ∈ is->n ∈ ms:=by
     intro is ms aF
     induction aF with
     | nil=>intro aA;simp at aA
     | cons aa _ bd=>
       intro aA;rcases aql.1 aA with rfl | aA
       . rw [aeK.Iz aa];simp
       . exact aqs _ (bd aA)
    exact gen aK aA
   rcases aql.1 aB with St | aB
   . rcases aql.1 bG with JO | bG
     . exact absurd (St.trans JO.symm) rR
     . rw [St] at hm;rw [hm.Iz a1];exact (HU bp.1 dd (Tj j dd bG nR)).1
   . rcases aql.1 bG with JO | bG
     . rw [JO] at nR;rw [nR.Iz a1];exact (HU bp.1 m (Tj i m aB hm)).2
     . exact NK aK aW.2 bp.2 i j m dd aB bG rR hm nR
theorem KF {jN:bJ} {b:aQ} {e:dL} {I:List Nat} (oD:∀i ∈ I,∃o A m,ops[i]? =some o/\mw o=some A/\(Ck P A.t=true/\uY P A.t=e)/\uW ops jN b o=some m/\∃v H1 cf,(cG P ay ops o).run call jN H1=.val v cf)
 (gN:∀i j m dd,i ∈ I->j ∈ I->i≠j->lz ops jN b i m->lz ops jN b j dd->e.run m.k dd.k=some false):
 ∀(τ:List Nat) (done:List Nat) (ds:List ca) (c:Nat) (H:ag),(∀i ∈ τ,i ∈ I)->(∀i ∈ done,i ∈ I)->(done++τ).Nodup->(∀m ∈ ds,∃i ∈ done,∃dd,lz ops jN b i dd/\m.k=dd.k)->H.get b=.mp ds c->
  ∃es ms fT gL,(fL P ay ops (hV ops τ)).run call jN H=.ok es jN gL/\gL.get b=.mp (ds++ms) fT/\(∀k,b≠k->gL.get k=H.get k)/\(∀k,gL.set b k=H.set b k)/\(∀e ∈ es,∀k,b≠k->e.h.get k=H.get k)/\
   p2 (fun i (m:ca)=>∃dd,lz ops jN b i dd/\m.k=dd.k/\m.v=dd.v) τ ms
 | [],done,ds,c,H,_,_,_,_,ml=>⟨[],[],c,H,rfl,by rw [aq7];exact ml,fun _ _=>rfl,fun _=>rfl,fun e he=>by simp at he,.nil⟩
 | i::τ,done,ds,c,H,FD,Sk,pA,uI,ml=>by
   obtain ⟨o,A,m,aY,nO,⟨yW,wP⟩,hm,v,H1,cf,cU⟩:=oD i (FD i (by simp));obtain ⟨jx,R4,ak,aA,ao⟩:=agb hm;rw [nO] at R4;cases R4;have rU:i ∉ done:=fun h=>by rw [List.nodup_append] at pA;exact pA.2.2 i h i (by simp) rfl
   have ij:=abK yW nO cU ak H ds c ml (fun dd nR=>by
    obtain ⟨j,bG,ajD,aek,aeI⟩:=uI dd nR;rw [aeI,wP,<-aA]
    exact gN i j m ajD (FD i (by simp)) (Sk j bG) (fun e=>rU (e ▸ bG)) ⟨o,aY,hm⟩ aek)
   obtain ⟨_,aq,_⟩:=Cd nO;obtain ⟨es,ms,fT,gL,g1,g2,g3,g4,g6,g5⟩:=KF oD gN τ (done++[i]) (ds++[⟨(bX A.k).run (dq jN (b3 ops o)),(bX A.x).run (dq jN (b3 ops o)),c⟩]) (c+1)
    (H.set b (.mp (ds++[⟨(bX A.k).run (dq jN (b3 ops o)),(bX A.x).run (dq jN (b3 ops o)),c⟩]) (c+1))) (fun j bG=>FD j (by simp [bG]))
    (fun j bG=>by
      rcases aq0.1 bG with h | h
      . exact Sk j h
      . simp only [aqU] at h;subst h;exact FD j (by simp)) (by simpa using pA)
    (fun dd nR=>by
      rcases aq0.1 nR with h | h
      . obtain ⟨j,bG,r⟩:=uI dd h;exact ⟨j,by simp [bG],r⟩
      . simp only [aqU] at h;subst h
        exact ⟨i,by simp,m,⟨o,aY,hm⟩,aA.symm⟩) (by rw [ag.ej,aqf rfl])
   have S0:=G4 (os:=hV ops τ) ij (by rw [aq];exact g1);rw [show o::hV ops τ=hV ops (i::τ) from by simp [hV,aY]] at S0;refine ⟨_,⟨(bX A.k).run (dq jN (b3 ops o)),(bX A.x).run (dq jN (b3 ops o)),c⟩::ms,fT,gL,S0,by rw [g2,arf];rfl,fun k aA=>?_,fun k=>?_,fun c7 eG k aA=>?_,.cons ⟨m,⟨o,aY,hm⟩,aA.symm,ao.symm⟩ g5⟩
   . rw [g3 k aA,ag.ej,aqa aA]
   . rw [g4];unfold ag.set;simp only [T.Vw]
   . rcases aql.1 eG with rfl | eG
     . rfl
     . rw [g6 c7 eG k aA,ag.ej,aqa aA]
def rj (E:Env):List (V × V)->List MapEntry->Prop
 | [],l=>l=[]
 | p::bo,l=>∃e es,l=e::es/\Rel E p.1 e.key/\Rel E p.2 e.val/\rj E bo es
theorem rj.perm {E:Env} {bo kn:List (V × V)} (h:bo.Perm kn):∀{l:List MapEntry},rj E kn l->∃eH,rj E bo eH/\eH.Perm l:=by
 induction h with
 | nil=>intro l h;exact ⟨l,h,.refl _⟩
 | cons x _ bd=>
   intro l h;obtain ⟨e,es,rfl,aa,ae,aM⟩:=h;obtain ⟨eH,g1,g2⟩:=bd aM;exact ⟨e::eH,⟨e,eH,rfl,aa,ae,g1⟩,g2.cons e⟩
 | swap x y vw=>
   intro l h;obtain ⟨e,es,rfl,aa,ae,c7,fg,rfl,aM,bw,cw⟩:=h;exact ⟨c7::e::fg,⟨c7,_,rfl,aM,bw,e,fg,rfl,aa,ae,cw⟩,List.Perm.swap _ _ _⟩
 | trans _ _ Kz KA=>
   intro l h;obtain ⟨eA,g1,g2⟩:=KA h;obtain ⟨gk,g3,g4⟩:=Kz g1;exact ⟨gk,g3,g4.trans g2⟩
theorem rj.UI {E:Env}:∀{ms:List ca} {l:List MapEntry},dr E ms l->rj E (ms.map fun m=>(m.k,m.v)) l
 | [],l,h=>h
 | m::ms,l,h=>by obtain ⟨e,es,rfl,aa,ae,_,bw⟩:=h;exact ⟨e,es,rfl,aa,ae,rj.UI bw⟩
theorem jf.UJ {E:Env}:∀{ms:List ca} {l:List MapEntry},rj E (ms.map fun m=>(m.k,m.v)) l->jf E ms l
 | [],l,h=>h
 | m::ms,l,h=>by obtain ⟨e,es,rfl,aa,ae,bw⟩:=h;exact ⟨e,es,rfl,aa,ae,jf.UJ bw⟩
theorem bc.forget {aC:Fr} {E:Env} {h:ag} {w:World} (s:bc aC E h w) {b:aQ} {p:jW} {es ms:List ca} {c:Nat} (aL:h.get b=.mp es c) (ai:E b=some p) (h':(ms.map fun m=>(m.k,m.v)).Perm (es.map fun m=>(m.k,m.v))):
 bc aC E (h.set b (.ia ms)) w:=by
 have ak:=s.at ai;rw [aL] at ak;obtain ⟨p',a,gS,cJ,a_,hm⟩:=ak;rw [ai] at gS;cases gS;obtain ⟨l,g1,g2⟩:=rj.perm h' (rj.UI hm);exact s.set (by rw [aL];rfl) ai cJ (ap7 _) (fun _ _=>rfl) rfl rfl rfl (fun _ _ _ e=>by cases e) ⟨p,a,c,l,ai,cJ,a_,jf.UJ g1,g2⟩
theorem Tp:∀(l:List Oper),(∀o ∈ l,o.dst=none)->∀{r c2:bJ} {h aF:ag} {es:List e5},(fL P ay ops l).run call r h=.ok es c2 aF->∀o ∈ l,∃v H1 cf,(cG P ay ops o).run call r H1=.val v cf
 | [],_,_,_,_,_,_,_,o,aY=>by simp at aY
 | x::xs,aq,r,c2,h,aF,es,he,o,aY=>by
   obtain ⟨v,aa,h4,al,au,rfl⟩:=G3 he;rcases aql.1 aY with rfl | aY
   . exact ⟨v,h,aa,al⟩
   . rw [aq x (by simp)] at au;exact Tp xs (fun b_ hP=>aq b_ (by simp [hP])) au o aY
theorem aji {t:TypeId} {H H1:ag} {c:aQ} {off:Nat} (h:H.get c=H1.get c):(qP P t).run H (.ptr c off)=(qP P t).run H1 (.ptr c off):=by
 unfold qP;cases bf P t with
 | none=>rfl
 | some aS=>
   simp only;cases aS.agg with
   | true=>simp only [ap8,n0,V.jK,h]
   | false=>
     simp only [aqe];cases Nat.beq aS.size 1 with
     | true=>simp only [ap8,n1,V.jK,h]
     | false=>rfl
theorem abM {o:Oper} {t:TypeId} {x:Operand} (aY:o.op=.load t x) (aL:o.guard=none) {r:bJ} {H1 ab:ag} {v:V} (he:(cG P ay ops o).run call r H1=.val v ab) {c:aQ} {off:Nat} (ao:(bX x).run (dq r (b3 ops o))=.ptr c off)
 (H:ag) (ml:H.get c=H1.get c):(cG P ay ops o).run call r H=.val v H:=by
 obtain ⟨aa,ae⟩:=kV he;have key:cG P ay ops o=⟨jD none (fw P o) (b3 ops o)⟩:=by unfold cG;rw [show (e0 ay o.dst&&jv (b3 ops o))=true from by rw [aa,ae];rfl,aL];rfl
 rw [key] at he ⊢;simp only [jD] at he ⊢;have wE:∀H,(fw P o).run call (dq r (b3 ops o)) H=ba.of H ((qP P t).run H (.ptr c off)):=by intro H;unfold fw;rw [aY];simp only [ao]
 rw [wE] at he ⊢;rw [aji ml];exact ba.xl he H
theorem T7 {es:List e5} {h:ag} {b:aQ}:∀{is:List Nat} {p:Nat},Cu P ops es h b call ay is p=true->∀q i o t x,is[q]? =some i->ops[i]? =some o->o.op=.load t x->
 ∃e c off ab,es[p+q]? =some e/\(bX x).run (dq e.r (b3 ops o))=.ptr c off/\c≠b/\o.guard=none/\(cG P ay ops o).run call e.r h=.val e.v ab
 | [],_,_,q,i,o,t,x,h,_,_=>by simp at h
 | j::agn,p,aw,q,i,o,t,x,ar,aY,mZ=>by
   simp only [Cu] at aw;cases q with
   | succ q=>
     cases bG:ops[j]? with
     | none=>rw [bG] at aw;cases aw
     | some apx=>
       rw [bG] at aw;simp only [ap2] at aw;have:=T7 aw.2 q i o t x (by simpa using ar) aY mZ;rw [show p + (q+1)=p+1+q from by omega];exact this
   | zero=>
     simp only [aqm,ap3] at ar;subst ar;rw [aY] at aw;simp only [ap2] at aw;have aa:=aw.1;rw [mZ] at aa;simp only at aa;rw [aro];cases he:es[p]? with
     | none=>rw [he] at aa;cases aa
     | some e=>
       rw [he] at aa;simp only at aa;cases ao:(bX x).run (dq e.r (b3 ops o))<;>rw [ao] at aa<;>simp only at aa<;>try (cases aa;done)
       rename_i c off;simp only [ap2,arb] at aa;cases aL:o.guard with
       | some _=>rw [aL] at aa;cases aa.2
       | none=>
         rw [aL] at aa;simp only at aa;have ae:=aa.2;cases aD:(cG P ay ops o).run call e.r h with
         | fail=>rw [aD] at ae;cases ae
         | cL _ _=>rw [aD] at ae;cases ae
         | val v ab=>
           rw [aD] at ae;have bz:=IS ae;exact ⟨e,c,off,ab,rfl,ao,(fun e=>by rw [e,aQ.Bi] at aa;cases aa.1),rfl,by rw [aD,bz]⟩
theorem zp {k:Nat}:∀{l:List Nat} {p:Nat},l.Nodup->l[p]? =some k->l.idxOf k=p
 | [],_,_,h=>by simp at h
 | x::xs,p,aW,h=>by
   rw [asj] at aW;cases p with
   | zero=>
     simp only [aqm,ap3] at h;subst h;simp
   | succ p=>
     have ao:xs[p]? =some k:=by simpa using h
     have cK:x≠k:=fun e=>aW.1 (e ▸ aqv ao);rw [List.idxOf_cons];simp only [arO,cK,aqe,show (x == k)=false from by simpa using cK];rw [zp aW.2 ao]
def ng (ops:Array Oper) (i:Nat):Bool:=
 match ops[i]? with
 | some o=>lU o
 | none=>false
theorem FL {o:Oper} {A:xW} (h:mw o=some A):lU o=true/\e9 P o.op=true/\gU o=false:=by obtain ⟨aY,_,_⟩:=Cd h;refine ⟨by unfold lU;rw [aY],by rw [aY];rfl,by unfold gU;rw [aY]⟩
theorem ajc {aI:List Nat} {cO cg:Nat} {t:TypeId} (aF:Cs P ops aI cO cg t=true):∀i o,ops[i]? =some o->∃cP,(eX [] ops.toList)[i]? =some cP/\nr i o=true/\
 (∀k ok,ops[k]? =some ok->∃mk,(eX [] ops.toList)[k]? =some mk/\pQ i cP (b3 ops o) o.dst k mk ok (Nat.blt (posOf aI k) (posOf aI i))=true)/\
 (posOf aI i<cO->lU o=false/\ep P o=false/\(looks o.op=true->e9 P o.op=false->∃t x,o.op=.load t x))/\
 (¬posOf aI i<cO->posOf aI i<cg->∃A,mw o=some A/\A.t=t)/\
 (¬posOf aI i<cO->¬posOf aI i<cg->e9 P o.op=false/\looks o.op=false):=by
 unfold Cs at aF;simp only [ap2] at aF;replace aF:=aF.2;intro i o aB;obtain ⟨cP,aa,ae⟩:=q7 aF i o (by simpa using aB);simp only [aqP,ap2] at ae;obtain ⟨⟨aM,bw⟩,cw⟩:=ae;refine ⟨cP,aa,aM,fun k ok aA=>?_,fun aN=>?_,fun kd aN=>?_,fun kd aes=>?_⟩
 . obtain ⟨mk,cd,cn⟩:=q7 bw k ok (by simpa using aA);simp only [aqP] at cn;exact ⟨mk,cd,cn⟩
 . rw [show Nat.blt (posOf aI i) cO=true from by rw [aqA];exact aN] at cw;simp only [ap8,ap2,arb,arp] at cw;refine ⟨cw.1.1,cw.1.2,fun aw he=>?_⟩;rcases cw.2 with (h | h) | h
   . rw [aw] at h;cases h
   . rw [he] at h;cases h
   . cases mZ:o.op<;>rw [mZ] at h<;>simp only at h<;>first
      | (cases h;done)
      | exact ⟨_,_,rfl⟩
 . rw [show Nat.blt (posOf aI i) cO=false from by rw [<-aqF,aqA];exact kd,show Nat.blt (posOf aI i) cg=true from by rw [aqA];exact aN] at cw;simp only [ap8,aqe] at cw;cases bp:mw o with
   | none=>rw [bp] at cw;cases cw
   | some A=>rw [bp] at cw;exact ⟨A,rfl,aqZ cw⟩
 . rw [show Nat.blt (posOf aI i) cO=false from by rw [<-aqF,aqA];exact kd,show Nat.blt (posOf aI i) cg=false from by rw [<-aqF,aqA];exact aes] at cw;simp only [aqe,ap2,arb] at cw;exact cw
theorem ajd {order:List Nat} {es:List e5} {cO:Nat} {b:aQ} {jN:bJ} {A:xW} (h:FY ops order es cO=some (b,jN,A)):
 ∃e i o,es[cO]? =some e/\order[cO]? =some i/\ops[i]? =some o/\mw o=some A/\e.r=jN:=by
 unfold FY at h;cases he:es[cO]? with
 | none=>rw [he] at h;cases h
 | some e=>
   rw [he] at h;simp only at h;cases aB:order[cO]? with
   | none=>rw [aB] at h;cases h
   | some i=>
     rw [aB] at h;simp only at h;cases aY:ops[i]? with
     | none=>rw [aY] at h;cases h
     | some o=>
       rw [aY] at h;simp only at h;cases bp:mw o with
       | none=>rw [bp] at h;cases h
       | some jx=>
         rw [bp] at h;simp only at h;cases hm:(bX jx.m).run (dq e.r (b3 ops o))<;>rw [hm] at h<;>simp only at h<;>try (cases h;done)
         simp only [ap3,aq9] at h;obtain ⟨_,ae,rfl⟩:=h;exact ⟨e,i,o,rfl,rfl,aY,bp,ae⟩
theorem Ug {r:bJ} {b:aQ} {f:Nat->V × V} (aF:∀i m,lz ops r b i m->f i=(m.k,m.v)):∀{is:List Nat} {ms:List ca},p2 (fun i (m:ca)=>∃dd,lz ops r b i dd/\m.k=dd.k/\m.v=dd.v) is ms->ms.map (fun m=>(m.k,m.v))=is.map f
 | _,_,.nil=>rfl
 | _,_,.cons (a:=i) (b:=m) a1 aK=>by obtain ⟨dd,aa,ae,aM⟩:=a1;simp only [are,Ug aF aK,aF i dd aa,ae,aM]
theorem zO {n:Nat} {order aI:List Nat} (h':l6 n order aI=true) {p i:Nat} (h:order[p]? =some i):posOf aI i=p/\i<n:=by unfold l6 at h';simp only [ap2,aqE] at h';obtain ⟨_,ae,_,bw⟩:=h';have:=vd bw h;rw [aqP] at this;refine ⟨by unfold posOf;rw [this];rfl,?_⟩;have:=(aqp.1 this).1;omega
theorem aj0 {l:List Nat} {f:Nat->Nat} (h:∀p i,l[p]? =some i->f i=p):l.Nodup:=by rw [List.Nodup,List.pairwise_iff_getElem];intro i j aB bG rR he;have aa:=h i _ (ap4 aB);have ae:=h j _ (ap4 bG);rw [he,ae] at aa;omega
theorem p2.left {α β:Type} {R:α->β->Prop}:∀{eA:List α} {gk:List β},p2 R eA gk->∀x ∈ eA,∃y ∈ gk,R x y
 | _,_,.nil,x,h=>by simp at h
 | _,_,.cons a1 aK,x,h=>by
   rcases aql.1 h with rfl | h
   . exact ⟨_,by simp,a1⟩
   . obtain ⟨y,aa,ae⟩:=aK.left x h;exact ⟨y,by simp [aa],ae⟩
theorem agi {o:Oper} (h:lU o=true):e9 P o.op=true/\gU o=false:=by
 unfold lU at h;unfold gU;cases aY:o.op<;>rw [aY] at h<;>simp only at h<;>first
  | (cases h;done)
  | exact ⟨rfl,rfl⟩
theorem anp {pre σ post:List Nat} (pA:(pre++(σ++post)).Nodup) (k q:Nat):(pre[q]? =some k->(pre++(σ++post)).idxOf k=q)/\(σ[q]? =some k->(pre++(σ++post)).idxOf k=pre.length+q)/\(post[q]? =some k->(pre++(σ++post)).idxOf k=pre.length+σ.length+q):=by
 refine ⟨fun h=>zp pA ?_,fun h=>zp pA ?_,fun h=>zp pA ?_⟩
 . have:=(aqp.1 h).1;rw [aqq this];exact h
 . have:=(aqp.1 h).1;rw [aqk (by omega),arA,aqq this];exact h
 . rw [aqk (by omega),aqk (by omega)];rw [show pre.length+σ.length+q-pre.length-σ.length=q from by omega];exact h
theorem aje {rd:Option Nat} {D:List Deferred} {aC:Fr} {calls:Nat->dX} {es:List e5} {aU:bJ} {a1:ag} {c2:bJ} {aF:ag} {eF order aI:List Nat} (bI:et P) (cX:∀i,hb P (calls i)) (dJ:∀i,hs P (calls i))
 (C:Cert P ay ops calls es aU a1 c2 aF eF order aI ops.size ops.size true) {gR:Env} {Q:Exit->Act->World->Prop}
 (cD:∀az bn w',gR.le az->RegRel0 az ay c2 bn->bn.defers=D->bc aC az aF w'->Q .normal bn w') {ug:List Nat}
 (h6:∀i k,ng ops i=true->ng ops k=true->posOf aI k<posOf aI i->∀a b,ug=a++i::b->k ∈ a):
 ∀(fuel t:Nat) (listed:Array Bool) (done:List Nat) (a:Act) (w:World),ug=done++Region.linearise.go .any ops fuel t listed []->(∀k,k<ops.size->(listed.getD k false=true↔k ∈ done))->
  (List.range ops.size).countP (fun i=>!listed.getD i false)<=fuel->q9 P aC ay ops es aU aF eF aI gR ops.size D listed a w->wpOpsIn (cc rd) 0 P ops Q (Region.linearise.go .any ops fuel t listed []) a w:=by
 have iV:∀i o,ops[i]? =some o->nr i o=true:=fun i o h=>by obtain ⟨_,_,ae,_⟩:=C.nL i o h;exact ae
 have fin:∀(listed:Array Bool) (a:Act) (w:World),(∀k,k<ops.size->listed.getD k false=true)->q9 P aC ay ops es aU aF eF aI gR ops.size D listed a w->Q .normal a w:=by intro listed a w c8 I;obtain ⟨az,g1,g2,g3,g4⟩:=QM C (ap7 _) I fun k aA _=>c8 k aA;exact cD az a w g1 g2 g3 g4
 intro fuel
 induction fuel with
 | zero=>
   intro t listed done a w sX JU av I;have a1:(List.range ops.size).countP (fun i=>!listed.getD i false)=0:=by omega
   rw [List.countP_eq_zero] at a1;exact fin listed a w (fun k aA=>by simpa using a1 k (arF.2 aA)) I
 | succ fuel bd=>
   intro t listed done a w sX JU av I;rw [go_succ] at sX ⊢;cases aD:xx ops t listed with
   | none=>exact fin listed a w (fun k aA=>zS iV I.tk (VH aD) k aA) I
   | some i=>
     rw [aD] at sX;simp only at sX ⊢;obtain ⟨i1,i2⟩:=xy I.tk (L0 aD);have aw:i<listed.size:=by rw [I.tk];exact i1
     have aoV:=count_set I.tk i1 i2;rw [wpOpsIn_cons];refine QX bI cX dJ C I (L0 aD) (C.iK i i1).1 (fun _ o k ok cC wO Fk aeH aN=>?_) (fun bn w' Hh=>bd _ _ (done++[i]) bn w' (by rw [arf];exact sX) (fun k aA=>?_) (by omega) Hh) (fun _ _ _ _ _ _ _ h=>absurd h (arB _))
     . have aA:k<ops.size:=(ap5.1 Fk).1;exact (JU k aA).2 (h6 i k (by unfold ng;rw [cC];exact wO) (by unfold ng;rw [Fk];exact aeH) aN _ _ sX)
     . rw [fW aw,JU k aA,aq0,aqU];exact Or.comm
def IN (ops:Array Oper) (r:bJ) (b:aQ) (i:Nat):V × V:=
 match ops[i]? with
 | some o=>(match uW ops r b o with
   | some m=>(m.k,m.v)
   | none=>(.bad,.bad))
 | none=>(.bad,.bad)
theorem Q8 {r:bJ} {b:aQ} {i:Nat} {m:ca} (h:lz ops r b i m):IN ops r b i=(m.k,m.v):=by obtain ⟨o,aa,ae⟩:=h;unfold IN;rw [aa];simp only [ae]
theorem Uh {r:bJ} {b:aQ}:∀{is:List Nat} {ms:List ca},p2 (lz ops r b) is ms->ms.map (fun m=>(m.k,m.v))=is.map (IN ops r b)
 | _,_,.nil=>rfl
 | _,_,.cons a1 aK=>by simp only [are,Uh aK,Q8 a1]
theorem ajf {rd:Option Nat} {aC:Fr} {E:Env} {h:ag} {w:World} {id:Nat} (c':P.follows .mixedOrders=true) (bI:et P) (cX:hb P call) (dJ:hs P call) {r:bJ} {a:Act} {order aI:List Nat} {cO cg:Nat} (h':l6 ops.size order aI=true)
 {Q:Exit->Act->World->Prop} (ai:ot aC E ay (Q .normal) Q (KZ P ay ops order aI cO cg (fL P ay ops (hV ops order)) call r h)) (k:fv E ay r a) (s:bc aC E h w):(Code.region id ops true).wpIn (cc rd) 0 P Q a w:=by
 unfold KZ at ai;cases cU:(fL P ay ops (hV ops order)).run call r h with
 | fail=>rw [cU] at ai;exact ai.elim
 | cL _ _ _ _ _=>rw [cU] at ai;exact ai.elim
 | ok es eJ a_=>
 rw [cU] at ai;simp only at ai;cases s6:FY ops order es cO with
 | none=>rw [s6] at ai;exact ai.elim
 | some x=>
 obtain ⟨b,jN,A⟩:=x;rw [s6] at ai;simp only at ai;cases px:(cj es a_ cO).get b<;>rw [px] at ai<;>try (exact False.elim ai)
 rename_i IU p_;cases IU with
 | cons _ _=>exact False.elim ai
 | nil=>
 simp only at ai;cases yZ:w_ ops jN b ((order.drop cO).take (cg-cO)) with
 | none=>rw [yZ] at ai;exact ai.elim
 | some ms=>
 rw [yZ] at ai;simp only at ai;cases av:(Cs P ops aI cO cg A.t&&(AY (uY P A.t) ms&&(Cu P ops es (cj es a_ cO) b call ay (order.take cO) 0&&Bk ((bX A.m).run eJ) (.map b)))) with
 | false=>rw [av] at ai;exact ai.elim
 | true=>
 rw [av] at ai;simp only [ap8] at ai;simp only [ap2] at av;obtain ⟨yX,gN,d',s7⟩:=av;have s7:=IS s7;obtain ⟨pB,Vg,apz⟩:=U_ h';have J4:order.Nodup:=aj0 fun p i h=>(zO h' h).1;obtain ⟨cA,i0,gz,Jx,wM,ae5,Br,aeo⟩:=ajd s6;obtain ⟨aly,-,-,-⟩:=vq cU;have hlen:es.length=ops.size:=by rw [aly,qQ,pB]
 have jH:cO<ops.size:=by rw [<-pB];exact (aqp.1 wM).1
 have nL:=ajc yX;generalize rV:order.take cO=pre at d';generalize wO:(order.drop cO).take (cg-cO)=ins at yZ;generalize SQ:(order.drop cO).drop (cg-cO)=post;have qA:order=pre++(ins++post):=by rw [<-rV,<-wO,<-SQ,arx,arx]
 have y':pre.length=cO:=by rw [<-rV,aqw];omega
 have ao4:cO<cg:=by
  obtain ⟨gI,_⟩:=zO h' wM;rcases arv cO cg with h | h
  . exact h
  . exfalso;obtain ⟨_,_,_,_,_,_,f3⟩:=nL i0 gz ae5;obtain ⟨ao,_⟩:=f3 (by omega) (by omega);rw [(FL (P:=P) Br).2.1] at ao;cases ao
 have aeC:ins.length=cg-cO\/post=[]:=by
  rcases arv (cg-cO) (order.drop cO).length with h | h
  . left;rw [<-wO,aqw];omega
  . right;rw [<-SQ];exact aqR h
 have H5:∀q i,pre[q]? =some i->posOf aI i=q/\i<ops.size/\q<cO:=by intro q i h;have ar:=(aqp.1 h).1;obtain ⟨aa,ae⟩:=zO h' (p:=q) (i:=i) (by rw [qA,aqq ar];exact h);exact ⟨aa,ae,by omega⟩
 have H3:∀q i,ins[q]? =some i->posOf aI i=cO+q/\i<ops.size/\cO+q<cg:=by
  intro q i h;have ar:=(aqp.1 h).1;obtain ⟨aa,ae⟩:=zO h' (p:=cO+q) (i:=i) (by rw [qA,aqk (by omega),y',arA,aqq ar];exact h);refine ⟨aa,ae,?_⟩;have:ins.length<=cg-cO:=by rw [<-wO,aqw];omega
  omega
 have H4:∀q i,post[q]? =some i->posOf aI i=cO+ins.length+q/\i<ops.size/\ins.length=cg-cO:=by
  intro q i h;have aw:ins.length=cg-cO:=by
   rcases aeC with ab | ab
   . exact ab
   . rw [ab] at h;simp at h
  obtain ⟨aa,ae⟩:=zO h' (p:=cO+ins.length+q) (i:=i) (by rw [qA,aqk (by omega),aqk (by omega),y',show cO+ins.length+q-cO-ins.length=q from by omega];exact h);exact ⟨aa,ae,aw⟩
 have WW:∀i,i<ops.size->(∃q:Nat,pre[q]? =some i)\/(∃q:Nat,ins[q]? =some i)\/∃q:Nat,post[q]? =some i:=by
  intro i aB;have hm:i ∈ order:=aqv (Vg i aB).2;rw [qA,aq0,aq0] at hm;rcases hm with h | h | h
  . exact .inl (aqT.1 h)
  . exact .inr (.inl (aqT.1 h))
  . exact .inr (.inr (aqT.1 h))
 have LL:∀i o,i ∈ pre->ops[i]? =some o->lU o=false/\ep P o=false/\(looks o.op=true->e9 P o.op=false->∃t x,o.op=.load t x):=by intro i o aB aY;obtain ⟨q,ar⟩:=aqT.1 aB;obtain ⟨aa,ae,aM⟩:=H5 q i ar;obtain ⟨_,_,_,_,f1,_,_⟩:=nL i o aY;exact f1 (by omega)
 have Ce:∀i,i ∈ ins->∃o jx,ops[i]? =some o/\mw o=some jx/\jx.t=A.t:=by intro i aB;obtain ⟨q,ar⟩:=aqT.1 aB;obtain ⟨aa,ae,aM⟩:=H3 q i ar;obtain ⟨_,_,_,_,_,f2,_⟩:=nL i _ (aqr ae);obtain ⟨jx,g1,g2⟩:=f2 (by omega) (by omega);exact ⟨_,jx,aqr ae,g1,g2⟩
 have CQ:∀i o,i ∈ post->ops[i]? =some o->e9 P o.op=false/\looks o.op=false:=by intro i o aB aY;obtain ⟨q,ar⟩:=aqT.1 aB;obtain ⟨aa,ae,aM⟩:=H4 q i ar;obtain ⟨_,_,_,_,_,_,f3⟩:=nL i o aY;exact f3 (by omega) (by omega)
 have KD:∀i,i<ops.size->(ng ops i=true↔i ∈ ins):=by
  intro i aB;have cC:ops[i]? =some ops[i]:=aqr aB;constructor
  . intro h;unfold ng at h;rw [cC] at h;simp only at h;rcases WW i aB with ⟨q,ar⟩ | ⟨q,ar⟩ | ⟨q,ar⟩
    . rw [(LL i _ (aqv ar) cC).1] at h;cases h
    . exact aqv ar
    . have:=(CQ i _ (aqv ar) cC).1;rw [(agi (P:=P) h).1] at this;cases this
  . intro h;obtain ⟨o,jx,g1,g2,_⟩:=Ce i h;unfold ng;rw [g1];exact (FL (P:=P) g2).1
 have J5:ins.Nodup:=by rw [qA] at J4;exact (List.nodup_append.1 (List.nodup_append.1 J4).2.1).1
 have B4:=cU;rw [qA,CH,CH] at B4;obtain ⟨h4,a8,aa,ace,w0,SS,rM⟩:=Mq _ _ B4;obtain ⟨rC,b',ae,IV,mu,afi,aoW⟩:=Mq _ _ SS;obtain ⟨eA,-,-,-⟩:=vq w0;rw [qQ,y'] at eA;obtain ⟨-,bT,bN,-⟩:=vq SS;have Sm:ace[0]? =some cA:=by rw [rM,aqk (by omega),eA,ar6] at Jx;exact Jx
 have afk:a8=jN:=by unfold ey at bN;rw [Sm] at bN;exact bN.symm.trans aeo
 have aex:cj es a_ cO=aa:=by unfold cj at bT ⊢;rw [Jx];rw [Sm] at bT;exact bT
 subst afk;rw [aex] at px d';have oD:∀i ∈ ins,∃o jx m,ops[i]? =some o/\mw o=some jx/\(Ck P jx.t=true/\uY P jx.t=uY P A.t)/\uW ops a8 b o=some m/\∃v H1 cf,(cG P ay ops o).run call a8 H1=.val v cf:=by
  intro i aB;obtain ⟨o,jx,g1,g2,g3⟩:=Ce i aB;obtain ⟨m,_,b_,g4,g5⟩:=(FK yZ).left i aB;rw [g1] at g4;cases g4;refine ⟨o,jx,m,g1,g2,⟨by rw [g3];unfold Cs at yX;rw [ap2] at yX;exact yX.1,by rw [g3]⟩,g5,Tp (hV ops ins) (fun cY y5=>?_) mu o ?_⟩
  . obtain ⟨q,ar⟩:=aqT.1 y5;have uP:q<ins.length:=by rw [<-qQ (ops:=ops)];exact (aqp.1 ar).1
    obtain ⟨zI,iO,tf,tg,_⟩:=Ce _ (aqC uP);have:=n9 (ap4 uP) tf;rw [ar] at this;cases this;exact (Cd tg).2.1
  . obtain ⟨q,ar⟩:=aqT.1 aB;exact aqv (n9 ar g1)
 have E5:=NK (FK yZ) J5 gN;obtain ⟨aoG,apm,aox,nv,I8,aoL,aoM,acO,_,aoN⟩:=KF oD E5 ins [] [] p_ aa (fun i aB=>aB) (fun i aB=>by simp at aB) (by simpa using J5) (fun m hm=>by simp at hm) px;rw [mu] at I8;simp only [q'.ok.injEq] at I8;obtain ⟨-,afh,adF⟩:=I8;subst afh adF
 obtain ⟨JL,afg⟩:=Vz (hV ops post) (fun cY y5=>by
  obtain ⟨q,ar⟩:=aqT.1 y5;have uP:q<post.length:=by rw [<-qQ (ops:=ops)];exact (aqp.1 ar).1
  obtain ⟨_,Fj,_⟩:=H4 q _ (ap4 uP);have:=n9 (ap4 uP) (aqr Fj);rw [ar] at this;cases this;exact CQ _ _ (aqC uP) (aqr Fj)) afi
 subst JL;refine wpIn_region_draw fun t=>?_;simp only [Region.schedule,c',Bool.true_or,aqB];have iV:∀i o,ops[i]? =some o->nr i o=true:=fun i o h=>by obtain ⟨_,_,ae,_⟩:=nL i o h;exact ae
 have dE:∀k,¬(Array.replicate ops.size false).getD k false=true:=by
  intro k;rw [uB,Array.getElem?_replicate]
  split<;>simp
 obtain ⟨s1,s2,jO⟩:=RR (ops:=ops) iV ops.size t (Array.replicate ops.size false) (by simp) (aqK asi (by simp));change wpOpsIn (cc rd) 0 P ops Q (Region.linearise.go .any ops ops.size t (Array.replicate ops.size false) []) a {w with drawn:=w.drawn+1};generalize sX:Region.linearise.go .any ops ops.size t (Array.replicate ops.size false) []=ug at s1 s2 jO;generalize Ky:ug.filter (ng ops)=σ;have K9:∀k,k ∈ σ↔k ∈ ins:=by
  intro k;rw [<-Ky,arK];constructor
  . rintro ⟨g1,g2⟩;exact (KD k (s2 k g1).1).1 g2
  . intro g;obtain ⟨q,ar⟩:=aqT.1 g;have aA:=(H3 q k ar).2.1;refine ⟨?_,(KD k aA).2 g⟩;rcases jO k aA with h | h
    . exact absurd h (dE k)
    . exact h
 have SI:σ.Nodup:=by rw [<-Ky];exact s1.filter _
 have Ke:σ.Perm ins:=(List.perm_ext_iff_of_nodup SI J5).2 K9;have Te:σ.length=ins.length:=Ke.length_eq;have mr:(pre++(σ++post)).Perm order:=by rw [qA];exact (Ke.append_right post).append_left pre
 have J6:(pre++(σ++post)).Nodup:=mr.nodup_iff.2 J4;have BR:(pre++(σ++post)).length=ops.size:=by rw [mr.length_eq,pB]
 have D3:=anp J6;generalize ae_:(List.range ops.size).map (fun k=>(pre++(σ++post)).idxOf k)=ll;have y9:∀k,k<ops.size->posOf ll k=(pre++(σ++post)).idxOf k:=by intro k aA;rw [<-ae_];unfold posOf;rw [aq2,List.getElem?_range aA];rfl
 have CL:∀i,i<ops.size->i ∈ pre->posOf ll i=posOf aI i/\posOf aI i<cO:=by intro i aB hm;obtain ⟨q,ar⟩:=aqT.1 hm;obtain ⟨g1,_,g3⟩:=H5 q i ar;rw [y9 i aB,(D3 i q).1 ar,g1];exact ⟨rfl,g3⟩
 have CK:∀i,i<ops.size->i ∈ ins->∃q:Nat,σ[q]? =some i/\posOf ll i=cO+q/\q<ins.length/\cO<=posOf aI i/\posOf aI i<cO+ins.length:=by intro i aB hm;obtain ⟨q,ar⟩:=aqT.1 ((K9 i).2 hm);obtain ⟨fi,hQ⟩:=aqT.1 hm;obtain ⟨g1,_,g3⟩:=H3 fi i hQ;have:=(aqp.1 ar).1;have:=(aqp.1 hQ).1;exact ⟨q,ar,by rw [y9 i aB,(D3 i q).2.1 ar,y'],by omega,by omega,by omega⟩
 have Lz:∀i,i<ops.size->i ∈ post->posOf ll i=posOf aI i/\cO+ins.length<=posOf aI i:=by intro i aB hm;obtain ⟨q,ar⟩:=aqT.1 hm;obtain ⟨g1,_,_⟩:=H4 q i ar;rw [y9 i aB,(D3 i q).2.2 ar,g1,Te,y'];exact ⟨rfl,by omega⟩
 have cls:∀i,i<ops.size->i ∈ pre\/i ∈ ins\/i ∈ post:=by
  intro i aB;rcases WW i aB with ⟨q,ar⟩ | ⟨q,ar⟩ | ⟨q,ar⟩
  . exact .inl (aqv ar)
  . exact .inr (.inl (aqv ar))
  . exact .inr (.inr (aqv ar))
 obtain ⟨wm,apn,aoy,jU,RJ,acP,acQ,acR,acT,acS⟩:=KF oD E5 σ [] [] p_ aa (fun i aB=>(K9 i).1 aB) (fun i aB=>by simp at aB) (by simpa using SI) (fun m hm=>by simp at hm) px;obtain ⟨yx,afj⟩:=afg jU;have SX:=Mr _ _ w0 (Mr _ _ RJ afj);rw [<-CH,<-CH] at SX;obtain ⟨aiD,-,-,-⟩:=vq RJ;rw [qQ,Te] at aiD;obtain ⟨b7,z2,z3,z4⟩:=vq SX;rw [qQ,BR] at b7;have Vh:∀k,k<ops.size->posOf ll k<ops.size/\(pre++(σ++post))[posOf ll k]? =some k:=by intro k aA;have hm:k ∈ pre++(σ++post):=mr.mem_iff.2 (aqv (Vg k aA).2);obtain ⟨q,ar⟩:=aqT.1 hm;have Kf:=zp J6 ar;rw [y9 k aA,Kf];have:=(aqp.1 ar).1;exact ⟨by omega,ar⟩
 have akS:∀p,p<ops.size->∃i,i<ops.size/\posOf ll i=p:=by intro p ai;have ar:(pre++(σ++post))[p]? =some ((pre++(σ++post))[p]'(by omega)):=ap4 _;have hm:(pre++(σ++post))[p]'(by omega) ∈ order:=mr.mem_iff.1 (aqC _);obtain ⟨q,oI⟩:=aqT.1 hm;have aN:=(zO h' oI).2;exact ⟨_,aN,by rw [y9 _ aN];exact zp J6 ar⟩
 have Qr:∀j o,ops[j]? =some o->ep P o=true->j ∈ ins:=by
  intro j o aY lQ;rcases cls j (ap5.1 aY).1 with h | h | h
  . rw [(LL j o h aY).2.1] at lQ;cases lQ
  . exact h
  . unfold ep at lQ;rw [(CQ j o h aY).1] at lQ;cases lQ
 have KE:∀k ok,k ∈ ins->ops[k]? =some ok->ok.dst=none/\lU ok=true:=by intro k ok aA bx;obtain ⟨o,jx,g1,g2,_⟩:=Ce k aA;rw [bx] at g1;cases g1;exact ⟨(Cd g2).2.1,(FL (P:=P) g2).1⟩
 have YX:∀st,st=ops.size\/(∃k,k<ops.size/\k ∈ ins/\st=posOf ll k)->∀c,b≠c->(cj (h4++(wm++yx)) jU st).get c=aa.get c:=by
  rintro st (rfl | ⟨k,aA,gO,rfl⟩) c av
  . unfold cj;rw [aqI (by omega)];exact acQ c av
  . obtain ⟨q,_,g2,g3,_⟩:=CK k aA gO;have Fv:q<wm.length:=by omega
    unfold cj;rw [g2,aqk (by omega),eA,arA,aqq Fv,ap4 Fv];exact acT _ (aqC Fv) c av
 have C:Cert P ay ops (fun _=>call) (h4++(wm++yx)) r h eJ jU (h_ P ll 0 ops.toList) (pre++(σ++post)) ll ops.size ops.size true:=by
  refine ⟨b7,ap7 _,ap7 _,Vh,akS,z2,z3,?_,?_,?_,?_,?_,?_,fun h=>absurd h (arB _),fun h=>absurd h (arB _)⟩
  . intro i o aY _;exact z4 _ o (n9 (Vh i (ap5.1 aY).1).2 aY)
  . intro i o cC;obtain ⟨cP,f1,f2,f3,_⟩:=nL i o cC;refine ⟨cP,f1,f2,fun _ k ok bx _=>?_⟩;obtain ⟨mk,f4,f5⟩:=f3 k ok bx;have aB:i<ops.size:=(ap5.1 cC).1;have aA:k<ops.size:=(ap5.1 bx).1;refine ⟨mk,f4,?_,fun he lQ aN=>?_⟩
    . by_cases gO:k ∈ ins
      . unfold pQ;rw [(KE k ok gO bx).1];simp
      . have ak:Nat.blt (posOf ll k) (posOf ll i)=Nat.blt (posOf aI k) (posOf aI i):=by
         rw [aqX,aqA,aqA];rcases cls k aA with av | av | av
         . obtain ⟨bC,a2⟩:=CL k aA av;rcases cls i aB with aq | aq | aq
           . obtain ⟨bM,b1⟩:=CL i aB aq;omega
           . obtain ⟨q,_,b1,dR,gD,jX⟩:=CK i aB aq;omega
           . obtain ⟨bM,b1⟩:=Lz i aB aq;omega
         . exact absurd av gO
         . obtain ⟨bC,a2⟩:=Lz k aA av;rcases cls i aB with aq | aq | aq
           . obtain ⟨bM,b1⟩:=CL i aB aq;omega
           . obtain ⟨q,_,b1,dR,gD,jX⟩:=CK i aB aq;omega
           . obtain ⟨bM,b1⟩:=Lz i aB aq;omega
        rw [ak];exact f5
    . have gO:=Qr k ok bx lQ;obtain ⟨apB,_,b1,dR,gD,jX⟩:=CK k aA gO;rcases cls i aB with aq | aq | aq
      . obtain ⟨bC,a2⟩:=CL i aB aq;omega
      . exact .inr ⟨rfl,(KE i o aq cC).2,(KE k ok gO bx).2⟩
      . rw [(CQ i o aq cC).1] at he;cases he
  . have:=FW (P:=P) (aI:=ll) (l:=ops.toList) (i:=0);simpa using this
  . intro j o g1 g2;have:=zu (P:=P) (aI:=ll) (i:=0) (j:=j) (l:=ops.toList) (o:=o) (by simpa using g1) g2;simpa using this
  . intro st cH;rcases u2 cH with h | ⟨j,o,g1,g2,g3⟩
    . exact .inl (.inl (by simpa using h))
    . exact .inr ⟨j,o,by simpa using g1,g2,by simpa using g3⟩
  . intro j o rS aw he _;have bG:j<ops.size:=(ap5.1 rS).1;have oG:j ∈ pre:=by
     rcases cls j bG with aq | aq | aq
     . exact aq
     . obtain ⟨b_,jx,g1,g2,_⟩:=Ce j aq;rw [rS] at g1;cases g1;rw [(FL (P:=P) g2).2.1] at he;cases he
     . rw [(CQ j o aq rS).2] at aw;cases aw
    obtain ⟨xF,W6,mZ⟩:=(LL j o oG rS).2.2 aw he;obtain ⟨q,ar⟩:=aqT.1 oG;obtain ⟨bC,_,a3⟩:=H5 q j ar;obtain ⟨e,c,off,ab,dU,gn,y3,y4,MW⟩:=T7 d' q j o xF W6 ar rS mZ;have aei:(h4++(wm++yx))[posOf ll j]? =some e:=by rw [(CL j bG oG).1,bC,aqq (by omega)];rw [aqP,rM,aqq (by omega)] at dU;exact dU
    refine ⟨e,aei,fun st cH _=>⟨call,_,⟨cX,dJ⟩,abM mZ y4 MW gn _ (YX st ?_ c fun h=>y3 h.symm)⟩⟩;rcases u2 cH with h | ⟨bs,b_,g1,g2,g3⟩
    . exact .inl (by simpa using h)
    . have Ft:ops[bs]? =some b_:=by simpa using g1
      exact .inr ⟨bs,(ap5.1 Ft).1,Qr bs b_ Ft g2,by simpa using g3⟩
 have k2:∀(az:Env) (bn:Act),E.le az->bn.defers=a.defers->∀(bb:bJ),T.get .bad eZ bb=T.get .bad eZ r->l_ az (T.get .bad eZ bb) bn.defers:=fun az bn he aq bb qD=>by rw [qD,aq];exact k.defers.mono he
 have Fa:T.get .bad eZ eJ=T.get .bad eZ r:=by have:=C.IE ops.size (ap7 _);have J9:(h4++(wm++yx))[ops.size]? =none:=aqI (by omega);unfold ey at this;rw [J9] at this;exact this
 have kC:Holds aC aC (h4++(wm++yx)) jU ll (kp ops (h4++(wm++yx)) jU ll (Array.replicate ops.size false) 0):=
  ⟨rfl,fun _ _=>rfl,fun k aA=>(by obtain ⟨_,_,_,_,a1⟩:=aA;omega),fun k bs aA=>(by obtain ⟨_,_,_,_,a1⟩:=aA;omega)⟩
 obtain ⟨gm,eb,g1,g2,g3,g4,g5,g6⟩:=C.advance ops.size 0 (by omega) (fun k o _ _ _=>dE k) aC kC (E:=E) (w:={w with drawn:=w.drawn}) (by rw [C.a1];exact s.same rfl rfl rfl rfl);rw [<-sX];refine aje (aC:=aC) bI (fun _=>cX) (fun _=>dJ) C (gR:=E) (D:=a.defers) (ug:=ug) (fun az bn w' al au aJ bE=>?_) (fun i k aB aA aN bn bR adP=>?_) ops.size t _ [] a _ (by rw [sX];rfl) (fun k _=>⟨fun h=>absurd h (dE k),fun h=>by simp at h⟩) (aqK asi (by simp)) ?_
 . refine ai az bn w' al ⟨au,k2 az bn al aJ eJ Fa⟩ ?_;have nb:=dD au A.m;rw [s7] at nb;simp only [Rel] at nb;obtain ⟨p,adB,_⟩:=nb;rw [acO,<-acR];refine bE.forget acP adB ?_;rw [aq8,Uh (FK yZ),Ug (fun i m h=>Q8 h) acS];exact Ke.symm.map _
 . have oF:i<ops.size:=by
    unfold ng at aB;cases aY:ops[i]? with
    | none=>rw [aY] at aB;cases aB
    | some o=>exact (ap5.1 aY).1
   have mo:k<ops.size:=by
    unfold ng at aA;cases aY:ops[k]? with
    | none=>rw [aY] at aA;cases aA
    | some o=>exact (ap5.1 aY).1
   have gO:=(KD k mo).1 aA;have Td:σ=bn.filter (ng ops)++i::bR.filter (ng ops):=by rw [<-Ky,adP,asg,List.filter_cons_of_pos aB]
   have kh:posOf ll i=cO + (bn.filter (ng ops)).length:=by rw [y9 i oF,(D3 i (bn.filter (ng ops)).length).2.1 (by rw [Td,aqk (ap7 _),ar6];rfl),y']
   obtain ⟨q,ar,Fu,_⟩:=CK k mo gO;have uP:q < (bn.filter (ng ops)).length:=by omega
   rw [Td,aqq uP] at ar;exact (arK.1 (aqv ar)).1
 . refine ⟨by simp,k.size,rfl,fun bs aA=>absurd aA (dE bs),fun bs o e aA=>absurd aA (dE bs),E,gm,eb,Env.le.refl E,g1,g3,fun bs o aa ae=>⟨fun h=>absurd h (dE bs),fun h=>by have:=g4 bs o aa ae (arj _);omega⟩,
    fun bs o _ _ h=>absurd h (dE bs),g5,?_,fun t aK=>.inr ⟨fun bs o aA=>absurd aA (dE bs),k.aj t aK⟩⟩
   exact g6.same rfl rfl rfl rfl
theorem abR {rd:Option Nat} {aC:Fr} {E:Env} {h:ag} {w:World} {id:Nat} (c':P.follows .mixedOrders=true) (bI:et P) (cX:hb P call) (dJ:hs P call) {r:bJ} {a:Act}
 {Q:Exit->Act->World->Prop} (ai:ot aC E ay (Q .normal) Q ((IB P ay ops).run call r h)) (k:fv E ay r a) (s:bc aC E h w):(Code.region id ops true).wpIn (cc rd) 0 P Q a w:=by
 unfold IB at ai;generalize u' P ops=order at ai;generalize zP order 0 ops.toList=aI at ai;unfold QV at ai;cases aF:(l6 ops.size order aI&&wg P ops aI) with
 | false=>
   rw [aF] at ai;simp only [aqe] at ai;cases j1:(l6 ops.size order aI&&C9 P ops order aI) with
   | false=>
     rw [j1] at ai;simp only [aqe] at ai;cases JE:l6 ops.size order aI with
     | false=>rw [JE] at ai;exact ai.elim
     | true=>
       rw [JE] at ai;simp only [ap8] at ai;exact ajf c' bI cX dJ JE ai k s
   | true=>
     rw [j1] at ai;simp only [ap8] at ai;simp only [ap2] at j1;exact abS c' bI cX dJ j1.1 j1.2 ai k s
 | true=>
   rw [aF] at ai;simp only [ap8] at ai;simp only [ap2] at aF;obtain ⟨h',hO⟩:=aF;unfold l6 at h';simp only [ap2,aqE] at h';obtain ⟨pB,y5,BW,BX⟩:=h';have iK:∀k,k<ops.size->posOf aI k<ops.size/\order[posOf aI k]? =some k:=by
    intro k aA;have aL:aI[k]? =some (posOf aI k):=by unfold posOf;rw [ap4 (by omega)];rfl
    have:=vd BW aL;rw [aqP] at this;exact ⟨by have:=(aqp.1 this).1;omega,this⟩
   have l5:∀p,p<ops.size->∃i,i<ops.size/\posOf aI i=p:=by intro p ai;have aL:order[p]? =some (order[p]'(by omega)):=ap4 (by omega);have:=vd BX aL;rw [aqP] at this;refine ⟨order[p]'(by omega),by have:=(aqp.1 this).1;omega,?_⟩;unfold posOf;rw [this];rfl
   have Mo:∀j o,ops[j]? =some o->ep P o=true->posOf aI j ∈ h_ P aI 0 ops.toList:=fun j o aa ae=>by simpa using zu (aI:=aI) (i:=0) (j:=j) (l:=ops.toList) (by simpa using aa) ae
   have amV:ops.size ∈ h_ P aI 0 ops.toList:=by simpa using FW (P:=P) (aI:=aI) (l:=ops.toList) (i:=0)
   have Wq:∀N M,∀s ∈ h_ P aI 0 ops.toList,(s=ops.size\/(s=N/\M=N))\/∃k o,ops[k]? =some o/\ep P o=true/\s=posOf aI k:=fun N M s aO=>by
    rcases u2 aO with h | ⟨j,o,aa,ae,aM⟩
    . exact .inl (.inl (by simpa using h))
    . exact .inr ⟨j,o,by simpa using aa,ae,by simpa using aM⟩
   have So:∀i o,ops[i]? =some o->∃cP,(eX [] ops.toList)[i]? =some cP/\nr i o=true/\(posOf aI i<ops.size->
    ∀k ok,ops[k]? =some ok->posOf aI k<ops.size->∃mk,(eX [] ops.toList)[k]? =some mk/\pQ i cP (b3 ops o) o.dst k mk ok (Nat.blt (posOf aI k) (posOf aI i))=true/\(e9 P o.op=true->ep P ok=true->posOf aI k<posOf aI i->ga cP k=true\/(false=true/\lU o=true/\lU ok=true))):=by
    intro i o aB;obtain ⟨cP,g1,g2,g3⟩:=QU hO i o aB
    exact ⟨cP,g1,g2,fun _ k ok aA _=>by
     obtain ⟨mk,dU,gn,y3⟩:=g3 k ok aA
     exact ⟨mk,dU,gn,fun a b c=>.inl (y3 a b c)⟩⟩
   have main:∀(q:Dh),
    (∀es pz N,es.length=N->N<=ops.size->(∀i o,ops[i]? =some o->posOf aI i<N->∃e,es[posOf aI i]? =some e/\(cG P ay ops o).run call e.r e.h=.val e.v (cj es pz (posOf aI i+1)))->
      (N<ops.size->∃i0 gz,ops[i0]? =some gz/\posOf aI i0=N/\ep P gz=true)->q.run call es pz=true->∀j o,ops[j]? =some o->looks o.op=true->e9 P o.op=false->posOf aI j<N->∃e,es[posOf aI j]? =some e/\∀s ∈ h_ P aI 0 ops.toList,
      tm P (eX [] ops.toList) ops.toList aI j (((eX [] ops.toList)[j]?).getD 0) s=true->∃ab,(cG P ay ops o).run call e.r (cj es pz s)=.val e.v ab)->
    ot aC E ay (Q .normal) Q (Eu ops order aI (fL P ay ops (hV ops order)) q call r h)->(Code.region id ops true).wpIn (cc rd) 0 P Q a w:=by
    intro q uF cU;unfold Eu at cU;cases cH:(fL P ay ops (hV ops order)).run call r h with
    | fail=>rw [cH] at cU;exact cU.elim
    | ok es eJ a_=>
      rw [cH] at cU;simp only at cU;cases ar:q.run call es a_ with
      | false=>rw [ar] at cU;exact cU.elim
      | true=>
        rw [ar] at cU;simp only [ap8] at cU;obtain ⟨al,au,aJ,bE⟩:=vq cH;have hlen:es.length=ops.size:=by rw [al,qQ,pB]
        have ij:∀i o,ops[i]? =some o->posOf aI i<ops.size->∃e,es[posOf aI i]? =some e/\(cG P ay ops o).run call e.r e.h=.val e.v (cj es a_ (posOf aI i+1))/\ey es eJ (posOf aI i+1)=(fQ o.dst).run e.r e.v:=
         fun i o aY _=>bE _ o (n9 (iK i (ap5.1 aY).1).2 aY)
        have C:Cert P ay ops (fun _=>call) es r h eJ a_ (h_ P aI 0 ops.toList) order aI ops.size ops.size false:=
         ⟨hlen,ap7 _,ap7 _,iK,l5,au,aJ,ij,So,amV,Mo,Wq _ _,
           fun j o aa ae aM bw=>by obtain ⟨e,g1,g2⟩:=uF es a_ _ hlen (ap7 _) (fun i o aY aB=>by obtain ⟨e,b7,z2,_⟩:=ij i o aY aB;exact ⟨e,b7,z2⟩) (fun h=>by omega) ar j o aa ae aM bw;exact ⟨e,g1,fun s aO hm=>by obtain ⟨ab,g3⟩:=g2 s aO hm;exact ⟨_,ab,⟨cX,dJ⟩,g3⟩⟩,
           fun h=>absurd h (arB _),fun h=>absurd h (arB _)⟩
        exact ID c' bI cX dJ k s C (fun _=>cU) (fun _ _ _ _ _ _ _ h=>absurd h (arB _)) (fun h=>absurd h (arB _))
    | cL es eJ a_ v ab=>
      rw [cH] at cU;simp only at cU;cases ar:(LA ops order aI es.length&&q.run call es a_) with
      | false=>rw [ar] at cU;exact cU.elim
      | true=>
        rw [ar] at cU;simp only [ap8] at cU;simp only [ap2] at ar;obtain ⟨wY,ar⟩:=ar;obtain ⟨au,aJ,bE,gz,c1,eh,ju⟩:=Wr cH;have aN:es.length<ops.size:=by have:=(aqp.1 c1).1;rw [qQ,pB] at this;exact this
        obtain ⟨i0,wM,kh⟩:=l5 es.length aN;have cC:ops[i0]? =some ops[i0]:=aqr wM;have qA:=(iK i0 wM).2;rw [kh] at qA;have ae3:gz=ops[i0]:=by have:=n9 qA cC;rw [c1] at this;cases this;rfl
        subst ae3;unfold LA at wY;rw [qA] at wY;simp only at wY;obtain ⟨m0,SB,_⟩:=q7 wY i0 ops[i0] (by simp);have Ta:∀k ok,ops[k]? =some ok->∃mk,(eX [] ops.toList)[k]? =some mk/\(es.length<posOf aI k->ga mk i0=true)/\(gU ok=true->posOf aI k<es.length->ga m0 k=true):=by
         intro k ok aA;obtain ⟨mk,b7,z2⟩:=q7 wY k ok (by simpa using aA);simp only [aqP,ap2] at z2;refine ⟨mk,b7,fun aL=>?_,fun bp aw=>?_⟩
         . have:=z2.1;rw [show Nat.blt es.length (posOf aI k)=true from by rw [aqA];exact aL] at this;exact this
         . have:=z2.2;rw [bp,show Nat.blt (posOf aI k) es.length=true from by rw [aqA];exact aw,SB] at this;exact this
        have yO:ep P ops[i0]=true:=by obtain ⟨bW,b6⟩:=Ui (P:=P) eh;unfold ep;rw [bW,b6];rfl
        have ij:∀i o,ops[i]? =some o->posOf aI i<es.length->∃e,es[posOf aI i]? =some e/\(cG P ay ops o).run call e.r e.h=.val e.v (cj es a_ (posOf aI i+1))/\ey es eJ (posOf aI i+1)=(fQ o.dst).run e.r e.v:=
         fun i o aY aw=>bE _ o aw (n9 (iK i (ap5.1 aY).1).2 aY)
        have C:Cert P ay ops (fun _=>call) es r h eJ a_ (h_ P aI 0 ops.toList) order aI es.length ops.size false:=
         ⟨rfl,Nat.le_of_lt aN,Nat.le_of_lt aN,iK,l5,au,aJ,ij,So,by rw [<-kh];exact Mo i0 _ cC yO,Mo,Wq _ _,
           fun j o aa ae aM bw=>by obtain ⟨e,g1,g2⟩:=uF es a_ _ rfl (Nat.le_of_lt aN) (fun i o aY aB=>by obtain ⟨e,b7,z2,_⟩:=ij i o aY aB;exact ⟨e,b7,z2⟩) (fun _=>⟨i0,_,cC,kh,yO⟩) ar j o aa ae aM bw;exact ⟨e,g1,fun s aO hm=>by obtain ⟨ab,g3⟩:=g2 s aO hm;exact ⟨_,ab,⟨cX,dJ⟩,g3⟩⟩,
           fun h=>absurd h (arB _),fun _ _=>⟨i0,_,m0,cC,kh,eh,SB,fun k ok mk aA aL BT=>by
            obtain ⟨mk',b7,z2,_⟩:=Ta k ok aA;rw [BT] at b7;cases b7;exact z2 aL,fun k ok aA bp aw=>by
            obtain ⟨mk',b7,_,z3⟩:=Ta k ok aA;exact z3 bp aw,v,ab,ju⟩⟩
        refine ID c' bI cX dJ k s C (fun h=>absurd h (by omega)) (fun az bn w' x v1 aa g1 _ _ g3 g4 g5 g6=>?_) (fun h=>absurd h (arB _));obtain ⟨i1,di,b7,z2,z3⟩:=g3;have:i1=i0:=C.xr (ap5.1 b7).1 wM (by rw [z2,kh]);subst this;rw [cC] at b7;cases b7;rw [ju] at z3;cases z3;exact cU az bn w' x g1 g4 g5 g6
   cases aw:sF P ops.toList with
   | false=>
     rw [aw] at ai;have none:∀(l:List Oper),sF P l=false->∀(j:Nat) (o:Oper),l[j]? =some o->e9 P o.op=false:=by
      intro l
      induction l with
      | nil=>intro _ j o h;simp at h
      | cons x l bd=>
        intro h j o aY;simp only [sF,asa] at h;cases j with
        | zero=>simp only [aqm,ap3] at aY;subst aY;exact h.1
        | succ j=>exact bd h.2 j o (by simpa using aY)
     refine main _ (fun es pz N hlen hle ij S1 _ j o aY d' ar BL=>?_) ai;have Jk:N=ops.size:=by
      rcases arv N ops.size with aN | kd
      . obtain ⟨i0,gz,b7,z2,z3⟩:=S1 aN;have:=none _ aw i0 gz (by simpa using b7);unfold ep at z3;rw [this] at z3;cases z3
      . omega
     obtain ⟨e,cq,cx⟩:=ij j o aY BL;refine ⟨e,cq,fun s aO _=>?_⟩;have jo:s=ops.size:=by
      rcases u2 aO with h | ⟨FN,b_,aa,ae,aM⟩
      . simpa using h
      . have:=none _ aw FN b_ aa;unfold ep at ae;rw [this] at ae;cases ae
     have flat:∀d,d<=ops.size->cj es pz d=cj es pz 0:=by
      intro d
      induction d with
      | zero=>intro _;rfl
      | succ d bd=>
        intro aq;obtain ⟨i,wN,oF⟩:=l5 d (by omega);have cC:ops[i]? =some ops[i]:=aqr wN;obtain ⟨ab4,bT,bN⟩:=ij i ops[i] cC (by omega);rw [oF] at bT bN;have cK:e9 P ops[i].op=false:=none _ aw i _ (by simp);rw [(we cK bN).1,<-bd (by omega)];simp [cj,bT]
     have:e.h=cj es pz s:=by rw [jo,flat ops.size (ap7 _),<-flat (posOf aI j) (by omega)];simp [cj,cq]
     rw [<-this];exact ⟨_,cx⟩
   | true=>
     rw [aw] at ai;refine main _ (fun es pz N hlen hle ij S1 Kf j o aY d' ar BL=>?_) ai;obtain ⟨e,cq,_⟩:=ij j o aY BL;have:=H2 Kf j o (by simpa using aY) d' ar e (by simpa using cq);exact ⟨e,cq,by simpa using this⟩
end
def toExit:cV->Exit
 | .normal=>.normal
 | .exit id=>.exit id
 | .ret=>.ret
def XS (C:Ctx):Prop:=
 ∀f p args h v ab,C.LM f=some p->p.run args h=.val v ab->(∃fn,C.P.funcs[f]? =some fn/\fn.body.isSome=true)/\∀(aC:Fr) E w xs,bj E args xs->bc aC E h w->
  Calls C.P f xs.toArray w fun e w'=>∃az x,e=.returned x/\E.le az/\Rel az v x/\bc aC az ab w'
def Xl (C:Ctx):Prop:=
 ∀f p args h v ab,C.ext f=some p->p.run args h=.val v ab->∀(aC:Fr) E w xs,bj E args xs->bc aC E h w->
  ∃az x w',(callFunc f xs.toArray).run C.P w=.ok (.value x) w'/\E.le az/\Rel az v x/\bc aC az ab w'
def p7 (C:Ctx):Prop:=XS C/\Xl C
theorem qk {P:Program} {rd:Option Nat} (m:Machine):m.fenced P (cc rd):=fenced_wide P m
def De (rd:Option Nat) (P:Program) (c:Code) (Q:Exit->Act->World->Prop) (a:Act) (w:World):Prop:=
 match c with
 | .loop x=>∀(b:Frame) (k:List Item) (cs:List Frame),b.roundOf=rd->∃e bn w',Q e bn w'/\ArrivesIn (Machine.fenced P (cc rd)) P (lone (b.atR a (.code x::.inLoop x::k)) cs w) b k cs e bn w'
 | c=>c.wpIn (cc rd) 0 P Q a w
theorem De.wp {rd:Option Nat} {P:Program} {c:Code} {Q:Exit->Act->World->Prop} {a:Act} {w:World} (h:De rd P c Q a w):c.wpIn (cc rd) 0 P Q a w:=by
 cases c with
 | loop x=>
   intro b k cs kD _ _;obtain ⟨e,bn,w',q,r⟩:=h b k cs kD;exact ⟨e,bn,w',q,.of_steps (.one (qk _) stepR_loop) r⟩
 | _=>exact h
def x7 (aC:Fr) (E:Env) (ay:Nat) (Q:Exit->Act->World->Prop):mK->Prop
 | .ok e r h=>∀az bn w',E.le az->fv az ay r bn->bc aC az h w'->Q (toExit e) bn w'
 | .cL v r h=>∀az bn w' x,E.le az->fv az ay r bn->Rel az v x->bc aC az h w'->Q (.panic (qS x)) bn w'
 | .fail=>False
theorem x7.up {aC:Fr} {E az:Env} (h:E.le az) {ay:Nat} {Q:Exit->Act->World->Prop} {x:mK} (k:x7 aC E ay Q x):x7 aC az ay Q x:=by
 cases x with
 | ok e r a_=>exact fun bO a w ae=>k bO a w (h.trans ae)
 | cL v r a_=>exact fun bO a w x ae=>k bO a w x (h.trans ae)
 | fail=>exact k
def M4 (P:Program) (ay:Nat) (c:Code) (run:bJ->ag->mK):Prop:=
 ∀(rd:Option Nat) (aC:Fr) r h,(rd=none\/noMark c=true)->∀E a w,fv E ay r a->bc aC E h w->∀Q:Exit->Act->World->Prop,x7 aC E ay Q (run r h)->De rd P c Q a w
def tT (P:Program) (ex:ix):Prop:=∀ay c,M4 P ay c (ex ay c)
def xz (tmps:Array Value):ResultVar->Sem Value
 | .tmp t=>pure (tmps.getD t undef)
 | .cell b t=>do loadVar t (<-asAddr (tmps.getD b undef))
theorem L4 {P:Program} {aC:Fr} {E:Env} {ay:Nat} {r:bJ} {h:ag} {a:Act} {w:World} (k:RegRel0 E ay r a) (s:bc aC E h w):∀{l:List ResultVar} {ah:List V},(lp P ay l).run r h=some ah->
 ∃xs,bj E ah xs/\(l.mapM (xz a.tmps)).run P w=.ok xs w
 | [],ah,he=>by simp only [lp,ap3] at he;subst he;exact ⟨[],rfl,rfl⟩
 | .tmp t::l,ah,he=>by
   simp only [lp] at he;cases av:(Nat.ble t top&&Nat.blt t ay) with
   | false=>rw [av] at he;cases he
   | true=>
     rw [av] at he;simp only [ap8] at he;simp only [ap2,aqj] at av;cases aD:(lp P ay l).run r h with
     | none=>rw [aD] at he;cases he
     | some us=>
       rw [aD] at he;simp only [ap3] at he;subst he;obtain ⟨xs,aa,ae⟩:=L4 k s aD;refine ⟨_::xs,by simp only [bj];exact ⟨_,_,rfl,k.aj t av.1,aa⟩,?_⟩;rw [List.mapM_cons,Sem.run_bind];simp only [xz,Sem.run_pure,Result.andThen_ok,Sem.run_bind,ae]
 | .cell b t::l,ah,he=>by
   simp only [lp] at he;cases av:(Nat.ble b top&&Nat.blt b ay) with
   | false=>rw [av] at he;cases he
   | true=>
     rw [av] at he;simp only [ap8] at he;simp only [ap2,aqj] at av;cases bz:(qP P t).run h (T.get .bad (aG b) r) with
     | none=>rw [bz] at he;cases he
     | some v=>
       rw [bz] at he;simp only at he;cases aD:(lp P ay l).run r h with
       | none=>rw [aD] at he;cases he
       | some us=>
         rw [aD] at he;simp only [ap3] at he;subst he;obtain ⟨xs,aa,ae⟩:=L4 k s aD;obtain ⟨Y,_,cT,A,nO,fG⟩:=T6 (P:=P) s (k.aj b av.1) bz;refine ⟨Y::xs,by simp only [bj];exact ⟨_,_,rfl,cT,aa⟩,?_⟩;rw [List.mapM_cons,Sem.run_bind];simp only [xz,nO,asAddr,Sem.run_bind,Sem.run_pure,Result.andThen_ok,fG,ae]
theorem NQ:∀(args:List V) (i:Nat) (t:bJ) (j:Nat),i+args.length<=top+1->j<=top->
 T.get .bad (aG j) (nD i args t)=if i<=j/\j<i+args.length then (args[j-i]?).getD .bad else T.get .bad (aG j) t
 | [],i,t,j,_,_=>by
   have:¬(i<=j/\j<i):=by omega
   simp [nD,this]
 | v::ah,i,t,j,h,bG=>by
   simp only [aqb] at h ⊢;rw [nD,NQ ah _ _ _ (by omega) bG];by_cases aa:i+1<=j/\j<i+1+ah.length
   . rw [aqf aa,aqf (by omega)];have:j-i=(j - (i+1))+1:=by omega
     rw [this,aq6]
   . rw [aqa aa,T.iD];by_cases ae:j=i
     . subst ae;rw [aqf rfl,aqf (by omega)];simp
     . rw [aqa (fun e=>ae (gZ e).symm),aqa (by omega)]
theorem ako {E:Env} {ah:List V} {xs:List Value} (h:bj E ah xs) (fn:Func) (a:Act) (P:Program) (w:World)
 (aD:(fn.results.toList.mapM (xz a.tmps)).run P w=.ok xs w):∃x,(results fn a.tmps).run P w=.ok x w/\Rel E (oneOf ah) x:=by
 have s6:(fn.results.mapM (xz a.tmps)).run P w=.ok xs.toArray w:=by rw [Array.mapM_eq_mapM_toList,Sem.run_map,aD];rfl
 have Jw:results fn a.tmps=(do
  let ah <-fn.results.mapM (xz a.tmps)
  pure (if h:ah.size=1 then ah[0] else .tuple ah)):=by
  unfold results
  have:(fun x=>match x with
   | ResultVar.tmp t=>(pure (a.tmps.getD t undef):Sem Value)
   | ResultVar.cell b t=>do loadVar t (<-asAddr (a.tmps.getD b undef)))=xz a.tmps:=by
   funext x;cases x<;>rfl
  rw [<-this];rfl
 have zb:(results fn a.tmps).run P w=.ok (if h:xs.toArray.size=1 then xs.toArray[0] else .tuple xs.toArray) w:=by rw [Jw,Sem.run_bind,s6];rfl
 refine ⟨_,zb,?_⟩
 match ah,h with
 | [],h=>
   simp only [bj] at h;subst h;simp only [oneOf,Rel];exact ⟨#[],rfl,rfl⟩
 | [v],h=>
   simp only [bj] at h;obtain ⟨y,cy,rfl,a6,rfl⟩:=h;simpa [oneOf] using a6
 | v::u::ah,h=>
   have aw:=h.length;have cK:¬xs.toArray.size=1:=by simp at aw ⊢;omega
   rw [dif_neg cK];simp only [oneOf,Rel];exact ⟨_,rfl,by simpa using h⟩
section
variable {C:Ctx}
theorem NP:∀(args:List V) (i:Nat) (t:bJ),i+args.length<=top+1->T.get .bad eZ (nD i args t)=T.get .bad eZ t
 | [],_,_,_=>rfl
 | v::ah,i,t,h=>by simp only [aqb] at h;simp only [nD];rw [NP ah (i+1) _ (by omega),T.iD,aqa (xm (by omega))]
theorem Q9 {E:Env} {ay:Nat} {args:List V} {xs:List Value} (aw:bj E args xs) (kA:args.length<=ay) (fz:ay<=top):
 fv E ay (nD 0 args .e) {tmps:=xs.toArray++Array.replicate (ay-xs.toArray.size) undef,defers:=[]}:=by
 have hlen:=aw.length;refine ⟨⟨by simp;omega,fun t aK=>?_⟩,?_⟩
 . rw [NQ _ _ _ _ (by omega) aK];by_cases aN:t<args.length
   . rw [aqf (by omega),asq,ap4 aN];obtain ⟨y,a6,cT⟩:=aw.get t args[t] (ap4 aN);simp only [aqL];have:(xs.toArray++Array.replicate (ay-xs.toArray.size) undef).getD t undef=y:=by
      rw [aqx,arZ (by simp;omega)];simp [a6]
     rw [this];exact cT
   . rw [aqa (by omega)];simp [Rel]
 . rw [NP _ _ _ (by omega)];simp [l_]
def lE (E:Env) (u:Option V) (m:FrameMode):Prop:=
 match u with
 | none=>m=.returning
 | some v=>∃x,Rel E v x/\m=.panicking (qS x)
theorem lE.mono {E az:Env} (h:E.le az) {u:Option V} {m:FrameMode} (k:lE E u m):lE az u m:=by
 cases u with
 | none=>exact k
 | some v=>obtain ⟨x,aa,ae⟩:=k;exact ⟨x,Rel.mono h _ _ aa,ae⟩
theorem lE.settle {E:Env} {u:Option V} {m:FrameMode} (k:lE E u m):settle m=m:=by
 cases u with
 | none=>simp only [lE] at k;subst k;rfl
 | some v=>obtain ⟨x,aa,rfl⟩:=k;rfl
theorem lE.run {E:Env} {u:Option V} {m:FrameMode} (k:lE E u m):m≠.run:=by
 cases u with
 | none=>simp only [lE] at k;subst k;simp
 | some v=>obtain ⟨x,aa,rfl⟩:=k;simp
def Az (P:Program) (kU:vz):Prop:=
 ∀f args u h g_ ab,kU f args u h=.go g_ ab->(∃fn,P.funcs[f]? =some fn/\fn.body.isSome=true)/\
  ∀(aC:Fr) E w xs m,bj E args xs->lE E u m->bc aC E h w->CallsDIn (cc none) 0 P f xs.toArray m w fun e dd w'=>∃az x,e=.returned x/\E.le az/\lE az g_ (settle dd)/\bc aC az ab w'
theorem bc.gone {aC:Fr} {E:Env} {h:ag} {w w':World} (s:bc aC E h w) {b:aQ} {p:jW} (jm:(h.get b).own=true) (ai:E b=some p) (cJ:aC.w.heap.size<=p.a')
 (aN:w.heap.size<=w'.heap.size) (nT:∀j,j≠p.a'->w'.heap[j]? =w.heap[j]?) (pC:w'.os=w.os) (aK:w'.tape=w.tape) (aY:w'.output=w.output):bc aC E (h.set b .dead) w':=
 s.set jm ai cJ aN nT pC aK aY (fun _ _ _ e=>by cases e) trivial
theorem KV {P:Program} {kU:vz} (bI:et P) (k2:Az P kU) {aC:Fr} {fn:Func} {tmps:Array Value} {R:Ending->World->Prop}:∀(ah:List V) (ds:List Deferred) (E:Env) (u:Option V) (h:ag) (w:World) (m:FrameMode) (g_:Option V) (ab:ag),
 nm kU ah u h=.go g_ ab->oh E ah ds->lE E u m->bc aC E h w->(∀az dd w',E.le az->lE az g_ dd->bc aC az ab w'->LeavesInM (cc none) 0 P fn tmps R [] dd w')->LeavesInM (cc none) 0 P fn tmps R ds m w
 | [],ds,E,u,h,w,m,g_,ab,he,aq,hu,s,cT=>by simp only [nm,t_.go.injEq] at he;obtain ⟨rfl,rfl⟩:=he;simp only [oh] at aq;subst aq;exact cT E m w (Env.le.refl E) hu s
 | v::ah,ds,E,u,h,w,m,g_,ab,he,aq,hu,s,cT=>by
   obtain ⟨d,ox,rfl,E8,E9⟩:=aq;cases v with
   | func f args=>
     simp only [nm] at he;cases av:kU f args u h with
     | fail=>rw [av] at he;cases he
     | go anx aa=>
       rw [av] at he;simp only at he;obtain ⟨aF,cap,aK,aw⟩:=E8;obtain ⟨⟨acG,hE,ak⟩,cX⟩:=k2 _ _ _ _ _ _ av;refine ⟨hu.run,.inr ⟨fun h=>by simp at h,_,cap,f,d.args++cap,aK,?_,fun _ _=>trivial,?_⟩⟩
       . rw [aK];simp only [invoke];exact vm bI hE ak _ w
       . have e:d.args++cap=(d.args.toList++cap.toList).toArray:=by apply ar1;simp
         rw [e];refine CallsDIn.mono (cX aC E w _ m aw hu s) fun e m1 bT ar=>?_;obtain ⟨eP,x,rfl,al,au,aJ⟩:=ar;exact KV bI k2 ah ox eP anx aa bT (settle m1) g_ ab he (E9.mono al) au aJ fun bO m2 bN cq cx eE=>cT bO m2 bN (al.trans cq) cx eE
   | ptr b off=>
     simp only [nm] at he;cases aL:h.get b<;>rw [aL] at he<;>simp only at he<;>try (cases he;done)
     obtain ⟨p,ai,ad9⟩:=E8;have ak:=s.at ai;rw [aL] at ak;obtain ⟨p',gS,cJ,a_⟩:=ak;rw [ai] at gS;cases gS;have k7:=(ap5.1 a_).1
     let bT:World:={w with heap:=w.heap.setIfInBounds p.a' (.deferred none)}
     have afz:(Instr.takeDeferred p.a').run P w=.ok [] bT:=by
      have eV:(getObj p.a').run P w=.ok (.deferred (some [])) w:=by simp only [getObj,Sem.run,a_]
      have qG:(setObj p.a' (.deferred none)).run P w=.ok () bT:=by simp only [setObj,Sem.run,a_];rfl
      simp only [Instr.takeDeferred,Sem.run_bind,eV,Result.andThen_ok,qG,Sem.run_pure]
     have s1:bc aC E (h.set b .dead) bT:=s.gone (by rw [aL];rfl) ai cJ (by simp [bT]) (fun j bG=>by simp only [bT,aqo];rw [aqa (fun e=>bG e.symm)]) rfl rfl rfl;refine ⟨hu.run,.inl ⟨p.a',bT,by rw [ad9],afz,?_⟩⟩;exact KV bI k2 ah ox E u _ bT m g_ ab he E9 hu s1 cT
   | _=>simp [nm] at he
theorem L8 {P:Program} {aC:Fr} {E:Env} {fn:Func} {r:bJ} {h:ag} {a:Act} {w:World} (k:RegRel0 E fn.ntmps r a) (s:bc aC E h w) {ah:List V} (bz:(lp P fn.ntmps fn.results.toList).run r h=some ah):
 ∃x,(results fn a.tmps).run P w=.ok x w/\Rel E (oneOf ah) x:=by
 obtain ⟨cy,cq,cx⟩:=L4 (P:=P) k s bz;exact ako cq fn a P w cx
section
variable {C:Ctx}
theorem aaB (ex:ix):hs C.P (sO C ex):=by intro f args h v ab he;trivial
def sz (aC:Fr) (E:Env) (R:Ending->World->Prop):ba->Prop
 | .val v ab=>∀az x w',E.le az->Rel az v x->bc aC az ab w'->R (.returned x) w'
 | .cL v ab=>∀az x w',E.le az->Rel az v x->bc aC az ab w'->R (.panicked (qS x)) w'
 | .fail=>False
theorem sz.up {aC:Fr} {E az:Env} (h:E.le az) {R:Ending->World->Prop} {x:ba} (k:sz aC E R x):sz aC az R x:=by
 cases x with
 | val v a_=>exact fun bO a w ae=>k bO a w (h.trans ae)
 | cL v a_=>exact fun bO a w ae=>k bO a w (h.trans ae)
 | fail=>exact k
theorem EM (bI:et C.P) {kU:vz} (k2:Az C.P kU) {aC:Fr} {fn:Func} {E:Env} {r:bJ} {u:Option V} {h:ag} {a:Act} {w:World} {m:FrameMode} {R:Ending->World->Prop}
 (k:fv E fn.ntmps r a) (hu:lE E u m) (s:bc aC E h w)
 (ai:sz aC E R (finish (lp C.P fn.ntmps fn.results.toList) r (nm kU (T.get .bad eZ r).list u h))):LeavesInM (cc none) 0 C.P fn a.tmps R a.defers m w:=by
 cases aw:nm kU (T.get .bad eZ r).list u h with
 | fail=>rw [aw] at ai;exact ai.elim
 | go g_ ab=>
   rw [aw] at ai;refine KV bI k2 _ a.defers E u h w m g_ ab aw k.defers.list hu s fun az dd w' al au aJ=>?_;cases g_ with
   | some v=>
     obtain ⟨x,ao,rfl⟩:=au;exact ai az x w' al ao aJ
   | none=>
     simp only [lE] at au;subst au;simp only [finish] at ai;cases bz:(lp C.P fn.ntmps fn.results.toList).run r ab with
     | none=>rw [bz] at ai;exact ai.elim
     | some ah=>
       rw [bz] at ai;obtain ⟨x,cq,cx⟩:=L8 (P:=C.P) (k.mono al).toRegRel0 aJ bz;exact ⟨x,cq,ai az x w' al cx aJ⟩
theorem QH {res:x9} {u g_:Option V} {x:mK} {ab:ag} (he:Et res u x=.go g_ ab):∃e r ah,x=.ok e r ab/\(e=.normal\/e=.ret)/\T.get .bad eZ r=.bad/\res.run r ab=some ah/\g_=u:=by
 unfold Et at he;cases x with
 | fail=>cases he
 | cL _ _ _=>cases he
 | ok e r h=>
   have main:(bif (T.get .bad eZ r).KI then (match res.run r h with
    | some _=>t_.go u h
    | none=>.fail) else .fail)=.go g_ ab->(e=.normal\/e=.ret)->∃c7 bb ah,mK.ok e r h=.ok c7 bb ab/\(c7=.normal\/c7=.ret)/\T.get .bad eZ bb=.bad/\res.run bb ab=some ah/\g_=u:=by
    intro he ih;cases ak:(T.get .bad eZ r).KI with
    | false=>rw [ak] at he;cases he
    | true=>
      rw [ak] at he;simp only [ap8] at he;have k0:T.get .bad eZ r=.bad:=by
       cases aL:T.get .bad eZ r<;>rw [aL] at ak<;>first
        | rfl
        | cases ak
      cases bz:res.run r h with
      | none=>rw [bz] at he;cases he
      | some ah=>
        rw [bz] at he;simp only [t_.go.injEq] at he;obtain ⟨rfl,rfl⟩:=he;exact ⟨e,r,ah,rfl,ih,k0,bz,rfl⟩
   cases e with
   | normal=>exact main he (.inl rfl)
   | ret=>exact main he (.inr rfl)
   | exit id=>cases he
theorem alO {c:Code} {s:HJ} (h:GI c=some s):∃id di cY args types,c=.seq (.region id #[di,cY] false) s.rest/\di.dst=some s.d/\di.op=.call ⟨.builtin .recover,args,types⟩/\di.guard=none/\cY.dst=some s.e/\cY.op=.assign s.x/\cY.guard=none:=by
 unfold GI at h
 split at h
 case h_2=>cases h
 rename_i id ops rest
 split at h
 case h_2=>cases h
 rename_i di cY aw
 split at h
 case h_2=>cases h
 rename_i d args types e x aa ae aM bw cw e_;cases h;have ae6:ops=#[di,cY]:=by apply ar1;simp [aw]
 subst ae6;exact ⟨id,di,cY,_,_,rfl,aa,ae,aM,bw,cw,e_⟩
theorem abH (c':C.P.follows .mixedOrders=true) (bI:et C.P) {ex:ix} (hex:tT C.P ex):Az C.P (Es C.P ex):=by
 intro f args u h g_ ab he;unfold Es at he;cases aF:C.P.funcs[f]? with
 | none=>rw [aF] at he;cases he
 | some fn=>
   rw [aF] at he;simp only at he;cases ak:fn.body with
   | none=>rw [ak] at he;cases he
   | some c=>
     rw [ak] at he;simp only at he;refine ⟨⟨fn,rfl,by rw [ak];rfl⟩,fun aC E w xs m aw hu s=>?_⟩;cases fz:Nat.ble fn.ntmps top with
     | false=>rw [fz] at he;cases he
     | true=>
       rw [fz] at he;simp only [ap8] at he;rw [aqj] at fz;unfold QI at he;cases kA:Nat.ble args.length fn.ntmps with
       | false=>rw [kA] at he;cases he
       | true=>
         rw [kA] at he;simp only [ap8] at he;rw [aqj] at kA;have k:=Q9 aw kA fz;cases aD:GI c with
         | none=>
           rw [aD] at he;simp only at he;obtain ⟨e,r,ah,ao,ih,uI,bz,rfl⟩:=QH he;refine CallsDIn.mono (callsDIn_of_wp (R:=fun e w'=>∃az x,e=.returned x/\E.le az/\bc aC az ab w') aF ak trivial ?_) fun c7 dd w' ar=>?_
           . refine (hex fn.ntmps c none aC _ h (.inl rfl) E _ w k s _ ?_).wp;rw [ao];intro az bn w' al au aJ;have aq:bn.defers=[]:=by have:=au.defers;rw [uI] at this;exact this
             obtain ⟨x,cq,cx⟩:=L8 (P:=C.P) au.toRegRel0 aJ bz;rcases ih with rfl | rfl<;>exact ⟨aq,x,cq,az,x,rfl,al,aJ⟩
           . obtain ⟨rfl,az,x,rfl,al,aJ⟩:=ar;exact ⟨az,x,rfl,al,by rw [hu.settle];exact hu.mono al,aJ⟩
         | some c9=>
           rw [aD] at he;simp only at he;cases hO:(e0 fn.ntmps (some c9.d)&&e0 fn.ntmps (some c9.e)) with
           | false=>rw [hO] at he;cases he
           | true=>
             rw [hO] at he;simp only [ap8] at he;simp only [ap2] at hO;obtain ⟨e,r,ah,ao,ih,uI,bz,rfl⟩:=QH he;obtain ⟨id,di,cY,VE,rt,rfl,g1,g2,g3,g4,g5,g6⟩:=alO aD;refine callsDIn_of_wpSIn aF ak trivial fun wc cs Jv=>wpSIn_seq (wpSIn_region ?_)
             obtain ⟨X,dp,qd,hD,dd,nR,afs⟩:∃X,Rel E (u.getD .nilIface) X/\∃qd,(match recoverD (wc::cs) with
              | some (v,abp)=>v=X/\abp=qd
              | none=>X=.nilIface/\qd=wc::cs)/\∃dd,qd={wc with mode:=dd}::cs/\settle dd=.returning:=by
              cases u with
              | none=>
                simp only [lE] at hu;subst hu;refine ⟨.nilIface,rfl,wc::cs,?_,.returning,?_,rfl⟩
                . simp only [recoverD,Jv];exact ⟨trivial,trivial⟩
                . rw [<-Jv]
              | some v=>
                obtain ⟨x,ao,rfl⟩:=hu;refine ⟨x,ao,{wc with mode:=.panicking [{v:=x,recovered:=true}]}::cs,?_,.panicking [{v:=x,recovered:=true}],rfl,rfl⟩;simp only [recoverD,Jv];exact ⟨trivial,trivial⟩
             have cd:=k.put hO.1 dp;have cn:=cd.put hO.2 (dD cd.toRegRel0 c9.x);rw [<-g1] at cn;rw [<-g4] at cn
             have zc:=(hex fn.ntmps c9.rest none aC _ h (.inl rfl) E _ w cn s (fun c7 bn w'=>bodyPostS C.P fn wc cs (fun e dd w'=>∃az x,e=.returned x/\E.le az/\lE az none (settle dd)/\bc aC az ab w') c7 bn qd w') (by
              have:VJ c9 u (nD 0 args .e)=(fQ cY.dst).run ((fQ di.dst).run (nD 0 args .e) (u.getD .nilIface)) ((bX c9.x).run ((fQ di.dst).run (nD 0 args .e) (u.getD .nilIface))):=by rw [g1,g4];rfl
              rw [<-this,ao];intro az bn w' al au aJ;have aq:bn.defers=[]:=by have:=au.defers;rw [uI] at this;exact this
              obtain ⟨x,cq,cx⟩:=L8 (P:=C.P) au.toRegRel0 aJ bz
              rcases ih with rfl | rfl<;>exact ⟨aq,dd,nR,x,cq,az,x,rfl,al,afs,aJ⟩)).wp
             have S8:=wpSIn_of_wpIn (F:=cc none) rfl zc;have qH:∀y,Region.wanted di y=true:=fun y=>by simp [Region.wanted,g3]
             have uQ:∀y,Region.wanted cY y=true:=fun y=>by simp [Region.wanted,g6]
             have afp:∀(ρ:Operand->Value),(execOp ρ di).run C.P w=.ok .recover w:=fun ρ=>by obtain ⟨dst,op,type,pos,after,guard⟩:=di;simp only at g2;subst g2;rfl
             have B4:∀(ρ:Operand->Value),(execOp ρ cY).run C.P w=.ok (.value (ρ c9.x)) w:=fun ρ=>by obtain ⟨dst,op,type,pos,after,guard⟩:=cY;simp only at g5;subst g5;rfl
             have cu:(#[di,cY]:Array Oper).size=2:=rfl;rw [cu];simp only [List.range_succ,List.range_zero,aq8,aqM,wpOpsSIn];have cA:(#[di,cY]:Array Oper)[0]? =some di:=rfl;have ax:(#[di,cY]:Array Oper)[1]? =some cY:=rfl;rw [cA];simp only [qH,aqB,afp];refine ⟨fun _ _=>trivial,?_⟩;cases SV:recoverD (wc::cs) with
             | none=>
               rw [SV] at hD;obtain ⟨adN,py⟩:=hD;subst adN py;simp only [ax,uQ,aqB,B4];exact ⟨fun _ _=>trivial,S8⟩
             | some MK=>
               obtain ⟨v,aoD⟩:=MK;rw [SV] at hD;obtain ⟨rfl,rfl⟩:=hD;simp only [ax,uQ,aqB,B4];exact ⟨fun _ _=>trivial,S8⟩
end
end
theorem Wm:∀(xs:List V) (x:V),G1 (xs++[x])=some (xs,x)
 | [],x=>rfl
 | [y],x=>rfl
 | y::z::xs,x=>by have:=Wm (z::xs) x;simp only [aqM] at this ⊢;simp only [G1,this]
theorem RegRel0.putAt {E:Env} {ay:Nat} {r:bJ} {t:Array Value} {ds:List Deferred} (k:RegRel0 E ay r ⟨t,ds⟩) {d:Nat} (aq:d<ay) (aK:d<=top) {v:V} {x:Value} (bz:Rel E v x):
 RegRel0 E ay (T.put .bad v (aG d) r) ⟨t.setIfInBounds d x,ds⟩:=by
 refine ⟨by simp only [Array.size_setIfInBounds];exact k.size,fun j bG=>?_⟩;rw [T.iD];have cu:=k.size;simp only at cu;by_cases h:d=j
 . subst h;rw [aqf rfl];simp [aqx,cu,aq,bz]
 . rw [aqa (fun e=>h (gZ e))];have:=k.aj j bG;simpa [aqx,aqo,h] using this
theorem Vt {E:Env} {ay:Nat} {ds:List Deferred}:∀(bo:List Nat) (ah:List V) (xs:List Value) (r:bJ) (t:Array Value),tz ay bo=true->bj E ah xs->RegRel0 E ay r ⟨t,ds⟩->
 RegRel0 E ay (xw bo ah r) ⟨(bo.zip xs).foldl (fun t (p:Nat × Value)=>t.setIfInBounds p.1 p.2) t,ds⟩
 | [],ah,xs,r,t,_,_,k=>by cases ah<;>exact k
 | p::bo,[],xs,r,t,_,aw,k=>by simp only [bj] at aw;subst aw;exact k
 | p::bo,v::ah,xs,r,t,ai,aw,k=>by obtain ⟨y,cy,rfl,a6,aw⟩:=aw;simp only [tz,arz,ap2,aqA,aqj] at ai;simp only [xw,List.zip_cons_cons,List.foldl_cons];exact Vt bo ah cy _ _ ai.2 aw (k.putAt ai.1.1 ai.1.2 a6)
theorem alu {E:Env} {ay:Nat} {ds:List Deferred} {bo:Array Nat} {ah:List V} {xs:List Value} {r:bJ} {t:Array Value} (ai:tz ay bo.toList=true) (aw:bj E ah xs) (k:RegRel0 E ay r ⟨t,ds⟩):
 RegRel0 E ay (xw bo.toList ah r) ⟨(bo.zip xs.toArray).foldl (fun t (p:Nat × Value)=>t.setIfInBounds p.1 p.2) t,ds⟩:=by
 rw [<-Array.foldl_toList,Array.toList_zip];exact Vt bo.toList ah xs r t ai aw k
theorem RegRel0.YQ {E:Env} {ay:Nat} {r:bJ} {a:Act} (k:RegRel0 E ay r a) (v:V):RegRel0 E ay (T.put .bad v eZ r) a:=
 ⟨k.size,fun t aK=>by rw [T.iD,aqa (fun e=>xm aK e.symm)];exact k.aj t aK⟩
section
variable {C:Ctx}
theorem acH (bI:et C.P) (c':C.P.follows .mixedOrders=true) {ex:ix} (hex:tT C.P ex) {f:FuncId} {args:List V} {h:ag} {aC:Fr} {E:Env} {w:World} {xs:List Value} (aw:bj E args xs) (s:bc aC E h w) {R:Ending->World->Prop}
 (ai:sz aC E R ((I2 C.P f).run ex args h)):(∃fn,C.P.funcs[f]? =some fn/\fn.body.isSome=true)/\Calls C.P f xs.toArray w R:=by
 unfold I2 at ai;cases aF:C.P.funcs[f]? with
 | none=>rw [aF] at ai;exact ai.elim
 | some fn=>
   rw [aF] at ai;simp only at ai;cases ak:fn.body with
   | none=>rw [ak] at ai;exact ai.elim
   | some c=>
     rw [ak] at ai;simp only at ai;refine ⟨⟨fn,rfl,by rw [ak];rfl⟩,?_⟩;cases fz:Nat.ble fn.ntmps top with
     | false=>rw [fz] at ai;exact ai.elim
     | true=>
       rw [fz] at ai;simp only [ap8] at ai;rw [aqj] at fz;unfold RE at ai;cases kA:Nat.ble args.length fn.ntmps with
       | false=>rw [kA] at ai;exact ai.elim
       | true=>
         rw [kA] at ai;simp only [ap8] at ai;rw [aqj] at kA;have k:=Q9 aw kA fz;have k2:=abH (C:=C) c' bI hex;refine sP.1 (callsIn_of_wp_marks (F:=cc none) (n:=0) aF ak trivial ?_);refine (hex fn.ntmps c none aC _ h (.inl rfl) E _ w k s _ ?_).wp;cases aD:ex fn.ntmps c (nD 0 args .e) h with
         | fail=>rw [aD] at ai;exact ai
         | cL v r aa=>
           rw [aD] at ai;intro az bn w' x al au aJ bE;exact EM (u:=some v) bI k2 au ⟨x,aJ,rfl⟩ bE (sz.up al ai)
         | ok e r aa=>
           rw [aD] at ai;intro az bn w' al au aJ;have main:sz aC E R (finish (lp C.P fn.ntmps fn.results.toList) r (nm (Es C.P ex) (T.get .bad eZ r).list none aa))->LeavesInM (cc none) 0 C.P fn bn.tmps R bn.defers .returning w':=by intro ai;exact EM (u:=none) bI k2 au rfl aJ (sz.up al ai)
           cases e with
           | normal=>exact main ai
           | ret=>exact main ai
           | exit id=>exact ai.elim
theorem EP (bI:et C.P) (c':C.P.follows .mixedOrders=true) (hg:p7 C) {ex:ix} (hex:tT C.P ex) {f:FuncId} {args:List V} {h:ag} {aC:Fr} {E:Env} {w:World} {xs:List Value} (aw:bj E args xs) (s:bc aC E h w) {R:Ending->World->Prop}
 (ai:sz aC E R ((yD C f).run ex args h)):(∃fn,C.P.funcs[f]? =some fn/\fn.body.isSome=true)/\Calls C.P f xs.toArray w R:=by
 unfold yD at ai;cases ar:C.LM f with
 | none=>rw [ar] at ai;exact acH bI c' hex aw s ai
 | some p=>
   rw [ar] at ai;simp only at ai;cases aD:p.run args h with
   | fail=>rw [aD] at ai;exact ai.elim
   | cL _ _=>rw [aD] at ai;exact ai.elim
   | val v ab=>
     rw [aD] at ai;obtain ⟨aa,ae⟩:=hg.1 f p args h v ab ar aD;refine ⟨aa,(ae aC E w xs aw s).mono fun e w' ar=>?_⟩;obtain ⟨az,x,rfl,al,au,aJ⟩:=ar;exact ai az x w' al au aJ
theorem bc.loop {P:Program} {aC:Fr} {E:Env} {h:ag} {w:World} (s:bc aC E h w) {b:aQ} {l eH:AR} {p:jW} {o b_:Loop} (aL:h.get b=.fI l) (ai:E b=some p) (cJ:aC.w.heap.size<=p.a') (a_:w.heap[p.a']? =some (.loop o)) (aD:vM E eH b_):
 (setObj p.a' (.loop b_)).run P w=.ok () {w with heap:=w.heap.setIfInBounds p.a' (.loop b_)}/\bc aC E (h.set b (.fI eH)) {w with heap:=w.heap.setIfInBounds p.a' (.loop b_)}:=by
 have k7:=(ap5.1 a_).1;refine ⟨by simp only [setObj,Sem.run,a_],s.set (p:=p) (by rw [aL];rfl) ai cJ (by simp) (fun j bG=>?_) rfl rfl rfl (fun _ _ _ e=>by cases e) ?_⟩
 . simp only [aqo];rw [aqa (fun e=>bG e.symm)]
 . exact ⟨p,b_,ai,cJ,by simp [k7],aD⟩
theorem run_getLoop {P:Program} {r:Nat} {w:World} {o:Loop} (a_:w.heap[r]? =some (.loop o)):(Instr.getLoop r).run P w=.ok o w:=by
 have:(getObj r).run P w=.ok (.loop o) w:=by simp only [getObj,Sem.run,a_]
 simp only [Instr.getLoop,Sem.run_bind,this,Result.andThen_ok,Sem.run_pure]
theorem al7 {aC:Fr} {E:Env} {h ab:ag} {w:World} {b:aQ} {p:jW} {e:cV} {v:V} {P:Program} {R:Ending->World->Prop} {a:Act} (s:bc aC E h w) (ai:E b=some p) (he:C5 b e h=.val v ab)
 (cT:∀x w',Rel E v x->bc aC E ab w'->R (.returned x) w'):roundPost P p.a' R (toExit e) a w:=by
 unfold C5 at he;have ak:=s.at ai;cases aL:h.get b<;>rw [aL] at he ak<;>simp only at he<;>try (cases he;done)
 rename_i l;obtain ⟨p',o,gS,cJ,a_,aD⟩:=ak;rw [ai] at gS;cases gS;have s3:=run_getLoop (P:=P) a_;obtain ⟨a8,b',bP,d_,bS,cz,dT,cZ⟩:=aD;cases e with
 | normal=>
   simp only [ba.val.injEq] at he;obtain ⟨rfl,rfl⟩:=he;obtain ⟨aa,ae⟩:=s.loop (P:=P) (eH:=⟨0,none,l.d,l.ay,l.r,l.bo,l.assign,l.body⟩) (b_:={o with state:=.ready,pending:=none}) aL ai cJ a_ ⟨rfl,rfl,bP,d_,bS,cz,dT,cZ⟩;refine ⟨.bool true,_,?_,cT _ _ rfl ae⟩;simp only [Instr.endRound,Sem.run_bind,s3,Result.andThen_ok,Option.isNone_none,aqB,aa,Sem.run_pure]
 | ret=>
   simp only [ba.val.injEq] at he;obtain ⟨rfl,rfl⟩:=he;obtain ⟨aa,ae⟩:=s.loop (P:=P) (eH:=⟨2,some .ret,l.d,l.ay,l.r,l.bo,l.assign,l.body⟩) (b_:={o with state:=.done,pending:=some .ret}) aL ai cJ a_ ⟨rfl,rfl,bP,d_,bS,cz,dT,cZ⟩;refine ⟨.bool false,_,?_,cT _ _ rfl ae⟩;simp only [Instr.endRound,Sem.run_bind,s3,Result.andThen_ok,Option.isNone_some,aqd,aqD,aa,Sem.run_pure]
 | exit id=>
   simp only [ba.val.injEq] at he;obtain ⟨rfl,rfl⟩:=he;obtain ⟨aa,ae⟩:=s.loop (P:=P) (eH:=⟨2,some (.exit id),l.d,l.ay,l.r,l.bo,l.assign,l.body⟩) (b_:={o with state:=.done,pending:=some (.exit id)}) aL ai cJ a_ ⟨rfl,rfl,bP,d_,bS,cz,dT,cZ⟩;refine ⟨.bool false,_,?_,cT _ _ rfl ae⟩;simp only [Instr.endRound,Sem.run_bind,s3,Result.andThen_ok,Option.isNone_some,aqd,aqD,aa,Sem.run_pure]
theorem al8 {P:Program} {ex:ix} (hex:tT P ex) {aC:Fr} {E:Env} {h ab:ag} {w:World} {args:List V} {xs:List Value} {b:aQ} {p:jW} {v:V} (he:C4 ex args b h=.val v ab) (aw:bj E args xs) (s:bc aC E h w) (ai:E b=some p):
 ∃f tmps assign body,(Instr.yield p.a' xs.toArray).run P w=.ok (.round p.a' f tmps assign body) w/\
  RoundIn (cc none) 0 P p.a' f tmps assign body w fun e w'=>∃az x,e=.returned x/\E.le az/\Rel az v x/\bc aC az ab w':=by
 unfold C4 at he;have ak:=s.at ai;cases aL:h.get b<;>rw [aL] at he ak<;>simp only at he<;>try (cases he;done)
 rename_i l;obtain ⟨p',o,gS,cJ,a_,aD⟩:=ak;rw [ai] at gS;cases gS;obtain ⟨a8,b',bP,d_,bS,cz,dT,cZ⟩:=aD;obtain ⟨av,he⟩:=kv he;simp only [ap2,aqE] at av;obtain ⟨bW,b6,c3,fU⟩:=av;have hlen:=aw.length;have na:o.params.size=xs.length:=by rw [<-Array.length_toList,bP,hlen,bW]
 refine ⟨o.fn,(o.params.zip xs.toArray).foldl (fun tmps (t,a)=>tmps.setIfInBounds t a) o.tmps,o.assign,o.body,?_,?_⟩
 . simp only [Instr.yield,Sem.run_bind,run_getLoop a_,Result.andThen_ok];rw [aqa (by simp [na])];rfl
 . rw [d_,bS];refine roundIn_of_wpIn (F:=cc none) trivial ?_;have nX:RegRel0 E l.ay l.r ⟨o.tmps,[]⟩:=⟨cz,dT⟩;rw [<-bP] at b6 he;have cd:=(alu b6 aw nX).YQ .bad;have k:fv E l.ay (T.put .bad .bad eZ (xw o.params.toList args l.r)) ⟨(o.params.zip xs.toArray).foldl (fun t (p:Nat × Value)=>t.setIfInBounds p.1 p.2) o.tmps,[]⟩:=⟨cd,by rw [T.iD,aqf rfl];simp [l_]⟩
   have afM:=hex l.ay l.assign (some p.a') aC _ h (.inr c3) E _ w k s (Exit.then (fun vX xQ=>∃W5,(Instr.beginRound p.a').run P xQ=.ok () W5/\
    l.body.wpIn (cc (some p.a')) 0 P (roundPost P p.a' fun e w'=>∃az x,e=.returned x/\E.le az/\Rel az v x/\bc aC az ab w') vX W5) (fun _ _ _=>False))
   refine (afM ?_).wp;cases ao:ex l.ay l.assign (T.put .bad .bad eZ (xw o.params.toList args l.r)) h with
   | fail=>rw [ao] at he;cases he
   | cL _ _ _=>rw [ao] at he;cases he
   | ok e alB aa=>
     rw [ao] at he;cases e<;>simp only at he<;>try (cases he;done)
     intro eP bC bT al au aJ;unfold GO at he;have k6:=al _ _ ai;have kZ:=aJ.at k6;cases Sp:aa.get b<;>rw [Sp] at he kZ<;>simp only at he<;>try (cases he;done)
     rename_i eA;obtain ⟨cq,di,SM,wz,rP,w0⟩:=kZ;rw [k6] at SM;cases SM;obtain ⟨cH,he⟩:=kv he;rw [aqE] at cH;obtain ⟨t1,t2,t3,t4,t5,t6,t7,t8⟩:=w0;obtain ⟨g1,g2⟩:=aJ.loop (P:=P) (eH:=⟨1,eA.hW,eA.d,eA.ay,eA.r,eA.bo,eA.assign,eA.body⟩) (b_:={di with state:=.busy}) Sp k6 wz rP ⟨rfl,t2,t3,t4,t5,t6,t7,t8⟩;refine ⟨{bT with heap:=bT.heap.setIfInBounds p.a' (.loop {di with state:=.busy})},?_,?_⟩
     . have Kg:di.state=.ready:=by rw [t1,cH];rfl
       simp only [Instr.beginRound,Sem.run_bind,run_getLoop rP,Result.andThen_ok,g1,Kg,Sem.run_pure]
     . refine (hex l.ay l.body (some p.a') aC _ _ (.inr fU) eP _ _ au g2 _ ?_).wp;cases zn:ex l.ay l.body alB (aa.set b (.fI ⟨1,eA.hW,eA.d,eA.ay,eA.r,eA.bo,eA.assign,eA.body⟩)) with
       | fail=>rw [zn] at he;cases he
       | cL _ _ _=>rw [zn] at he;cases he
       | ok aH apC ae=>
         rw [zn] at he;simp only at he;intro bO a2 bN b7 z2 z3;exact al7 z3 (b7 _ _ k6) he fun x w' dU gn=>⟨bO,x,rfl,al.trans b7,dU,gn⟩
theorem aaC (c':C.P.follows .mixedOrders=true) (bI:et C.P) (hg:p7 C) {ex:ix} (hex:tT C.P ex):hb C.P (sO C ex) where
 fn:=by
  intro aC f args h v ab aF he E w xs aw s;unfold sO at he;rw [h1,aqa aF] at he;cases ao:C.ext f with
  | some p=>
    rw [ao] at he;simp only at he;cases aD:p.run args h with
    | fail=>rw [aD] at he;cases he
    | cL _ _=>rw [aD] at he;cases he
    | val v1 aa=>
      rw [aD] at he;simp only [ba.Lh,ba.val.injEq] at he;obtain ⟨rfl,rfl⟩:=he;exact .inr (hg.2 f p args h _ _ ao aD aC E w xs aw s)
  | none=>
  rw [ao] at he;simp only at he;exact .inl (EP bI c' hg hex aw s (by rw [he];exact fun az x w' al au aJ=>⟨az,x,rfl,al,au,aJ⟩))
 cL:=by
  intro aC f args h v ab aF he E w xs aw s;unfold sO at he;rw [h1,aqa aF] at he;cases ao:C.ext f with
  | some p=>
    rw [ao] at he;simp only at he;cases aD:p.run args h<;>rw [aD] at he<;>cases he
  | none=>
  rw [ao] at he;simp only at he;exact EP bI c' hg hex aw s (by rw [he];exact fun az x w' al au aJ=>⟨az,x,rfl,al,au,aJ⟩)
 W9:=by intro aC args b h v ab he E w xs p aw s ai;unfold sO at he;rw [h1,aqf rfl] at he;unfold Mc at he;rw [Wm] at he;exact al8 hex he aw s ai
 W':=by
  intro args h v ab he;unfold sO at he;rw [h1,aqf rfl] at he;have ax:∀b e h,C5 b e h≠.cL v ab:=by
   intro b e h he;unfold C5 at he
   split at he
   . cases e<;>cases he
   . cases he
  have aH:∀ay c b r h,GO ex ay c b r h≠.cL v ab:=by
   intro ay c b r h he;unfold GO at he
   split at he
   case h_2=>cases he
   rename_i l aw;cases av:Nat.beq l.st 0 with
   | false=>rw [av] at he;cases he
   | true=>
     rw [av] at he;simp only [ap8] at he
     split at he
     . exact ax _ _ _ he
     . cases he
  have bA:∀xs b h,C4 ex xs b h≠.cL v ab:=by
   intro xs b h he;unfold C4 at he
   split at he
   case h_2=>cases he
   rename_i l aw;cases av:(Nat.beq xs.length l.bo.length&&(tz l.ay l.bo&&(noMark l.assign&&noMark l.body))) with
   | false=>rw [av] at he;cases he
   | true=>
     rw [av] at he;simp only [ap8] at he
     split at he
     case h_2=>cases he
     rename_i e r aa _;cases e<;>simp only at he<;>try (cases he;done)
     exact aH _ _ _ _ _ he
  unfold Mc at he
  split at he
  case h_2=>cases he
  split at he
  case h_2=>cases he
  exact bA _ _ _ he
end
section
variable {C:Ctx}
theorem acm {P:Program} {e:cV} {Q:Exit->Act->World->Prop} {a:Act} {w:World} (h:Q (toExit e) a w):(IW e).wpIn (cc none) 0 P Q a w:=by
 cases e with
 | normal=>exact wpIn_skip h
 | exit id=>exact wpIn_exit h
 | ret=>exact wpIn_ret h
theorem alK (c':C.P.follows .mixedOrders=true) (bI:et C.P) (hg:p7 C) {ex:ix} (hex:tT C.P ex) {f:Operand} {bo:Array Tmp} {assign body:Code} {ay:Nat} {aC:Fr} {E:Env} {r:bJ} {h:ag} {a:Act} {w:World} {Q:Exit->Act->World->Prop}
 (k:fv E ay r a) (s:bc aC E h w) (ai:x7 aC E ay Q (LX (fun g args h=>(yD C g).run ex args h) (bX f) bo.toList ay assign body r h)):(Code.rangeFunc f bo assign body).wpIn (cc none) 0 C.P Q a w:=by
 unfold LX at ai;have aF:=dD k.toRegRel0 f;generalize (bX f).run r=xL at ai aF;cases xL<;>simp only at ai<;>try (exact ai.elim)
 rename_i g cs;rw [h1] at ai;by_cases aL:g=dy
 . rw [aqf aL] at ai;exact ai.elim
 . rw [aqa aL] at ai;simp only [Rel] at aF;rcases aF with ⟨_,eY,dp,aw⟩ | ⟨JJ,_⟩
   case inr=>exact absurd JJ aL
   refine wpIn_rangeFunc fun fn _=>?_;have f0:=s.fresh h.next (ap7 _)
   obtain ⟨eP,wA⟩:∃eP,eP=E.put (aG h.next) ⟨w.heap.size,0,0⟩:=⟨_,rfl⟩;obtain ⟨bT,qH⟩:∃bT:World,bT={w with heap:=w.heap.push (.deferred (some []))}:=⟨_,rfl⟩;have B1:eP (aG h.next)=some ⟨w.heap.size,0,0⟩:=by rw [wA];unfold Env.put;rw [aqf rfl]
   have s1:bc aC eP (h.new .h2) bT:=by rw [wA,qH];refine s.alloc 0 ⟨⟨w.heap.size,0,0⟩,by unfold Env.put;rw [aqf rfl],s.frame.size,by simp⟩
   have pJ:E.le eP:=by rw [wA];exact Env.nk f0
   have w3:bT.heap.size=w.heap.size+1:=by rw [qH];simp
   obtain ⟨o,aY⟩:∃o:Loop,o={state:=.ready,pending:=none,fn,tmps:=a.tmps,params:=bo,assign,body,defers:=w.heap.size}:=⟨_,rfl⟩;obtain ⟨bO,lO⟩:∃bO,bO=eP.put (aG (h.next+1)) ⟨bT.heap.size,0,0⟩:=⟨_,rfl⟩;obtain ⟨bN,uQ⟩:∃bN:World,bN={bT with heap:=bT.heap.push (.loop o)}:=⟨_,rfl⟩;have f1:eP (aG (h.next+1))=none:=s1.fresh (h.next+1) (ap7 _);have mz:eP.le bO:=by rw [lO];exact Env.nk f1
   have B2:bO (aG (h.next+1))=some ⟨bT.heap.size,0,0⟩:=by rw [lO];unfold Env.put;rw [aqf rfl]
   have fI:vM bO ⟨0,none,aG h.next,ay,r,bo.toList,assign,body⟩ o:=by subst aY;exact ⟨rfl,rfl,rfl,rfl,rfl,k.size,fun t aK=>Rel.mono (pJ.trans mz) _ _ (k.aj t aK),_,mz _ _ B1,rfl⟩
   have s2:bc aC bO ((h.new .h2).new (.fI ⟨0,none,aG h.next,ay,r,bo.toList,assign,body⟩)) bN:=by rw [lO,uQ];refine s1.alloc 0 ⟨⟨bT.heap.size,0,0⟩,o,by show eP.put (aG (h.next+1)) _ (aG (h.next+1))=_;unfold Env.put;rw [aqf rfl],by show aC.w.heap.size<=bT.heap.size;rw [w3];have:=s.frame.size;omega,by simp,?_⟩;have:=fI;rw [lO] at this;exact this
   obtain ⟨im,qy⟩:∃im,im=bT.heap.size:=⟨_,rfl⟩;have a6:Rel bO (.func dy [.ptr (aG (h.next+1)) 0]) (.func (.yield im) #[] #[]):=by simp only [Rel];exact .inr ⟨trivial,_,_,rfl,B2,by rw [qy]⟩
   have qn:bj bO (.func dy [.ptr (aG (h.next+1)) 0]::cs) (.func (.yield im) #[] #[]::eY.toList):=by simp only [bj];exact ⟨_,_,rfl,a6,bj.mono (pJ.trans mz) _ _ aw⟩
   have cX:=EP (C:=C) bI c' hg hex (f:=g) qn s2 (R:=rangePost (cc none) 0 C.P im Q {a with defers:=[{target:=.collected w.heap.size,args:=#[]}]++a.defers});cases aD:(yD C g).run ex (.func dy [.ptr (aG (h.next+1)) 0]::cs) ((h.new .h2).new (.fI ⟨0,none,aG h.next,ay,r,bo.toList,assign,body⟩)) with
   | fail=>rw [aD] at ai;exact ai.elim
   | cL _ _=>rw [aD] at ai;exact ai.elim
   | val v ab=>
     rw [aD] at ai cX;simp only at ai;obtain ⟨⟨acG,hE,ak⟩,av⟩:=cX (by
      intro az x w' al au aJ;simp only [rangePost];unfold VF at ai;have du:=al _ _ B2;have ak:=aJ.at du;cases s3:ab.get (aG (h.next+1))<;>rw [s3] at ai ak<;>simp only at ai<;>try (exact ai.elim)
      rename_i l;obtain ⟨p',b_,gS,cJ,a_,uM⟩:=ak;rw [du] at gS;cases gS;obtain ⟨t1,t2,t3,t4,t5,t6,t7,t8⟩:=uM;rw [h1] at ai;by_cases cH:l.st=1
      . rw [aqf cH] at ai;exact ai.elim
      . rw [aqa cH] at ai;simp only at a_;rw [<-qy] at a_;have J3:(b_.state == LoopState.busy)=false:=by
         rw [t1]
         match ke:l.st with
         | 0=>rfl
         | 1=>exact absurd ke cH
         | n+2=>rfl
        have k7:=(ap5.1 a_).1
        let ic:World:={w' with heap:=w'.heap.setIfInBounds im (.loop {b_ with state:=.exhausted})}
        have gF:(Instr.endLoop im).run C.P w'=.ok b_.pending ic:=by
         have qG:(setObj im (.loop {b_ with state:=.exhausted})).run C.P w'=.ok () ic:=by simp only [setObj,Sem.run,a_];rfl
         simp only [Instr.endLoop,Sem.run_bind,run_getLoop a_,Result.andThen_ok,J3,aqd,aqD,qG,Sem.run_pure]
        have o0:bc aC az (ab.set (aG (h.next+1)) .dead) ic:=by refine aJ.gone (p:=⟨bT.heap.size,0,0⟩) (by rw [s3];rfl) du cJ (by simp [ic]) (fun j bG=>?_) rfl rfl rfl;simp only at bG;simp only [ic,aqo];rw [aqa (fun e=>bG (by rw [<-e,qy]))]
        have gw:fv az ay (T.put .bad (.tuple (.ptr (aG h.next) 0::(T.get .bad eZ r).list)) eZ r) {a with defers:=[{target:=.collected w.heap.size,args:=#[]}]++a.defers}:=by
         refine ⟨⟨k.size,fun t aK=>?_⟩,?_⟩
         . rw [T.iD,aqa (fun e=>xm aK e.symm)];exact Rel.mono (pJ.trans (mz.trans al)) _ _ (k.aj t aK)
         . rw [T.iD,aqf rfl];simp only [l_,oh,aqM,aq8];exact ⟨_,_,rfl,⟨_,al _ _ (mz _ _ B1),rfl⟩,(k.defers.mono (pJ.trans (mz.trans al))).list⟩
        refine ⟨b_.pending,ic,gF,?_⟩;rw [t2];cases jn:l.hW with
        | none=>
          rw [jn] at ai;exact ai az _ ic (pJ.trans (mz.trans al)) gw o0
        | some e=>
          rw [jn] at ai;exact acm (ai az _ ic (pJ.trans (mz.trans al)) gw o0))
     refine ⟨im,[{target:=.collected w.heap.size,args:=#[]}],bN,{target:=.fn (.func g) eY,args:=#[]++#[.func (.yield im) #[] #[]]},bN,g,_,bN,?_,?_,fun _ _=>trivial,?_,fun h=>by simp at h,sP.2 av⟩
     . subst aY uQ qH;have he:=run_enterLoop_outer (P:=C.P) (w:=w) fn a.tmps bo assign body;rw [World.alloc,World.alloc] at he;simp only [Array.size_push] at qy ⊢;rw [qy];exact he
     . simp only [resolve,dp,Deferred.ofValue,Sem.run_pure];simp [Act.eval]
     . simp only [invoke];have e:(#[]++#[Value.func (.yield im) #[] #[]]:Array Value)++eY=(Value.func (.yield im) #[] #[]::eY.toList).toArray:=by apply ar1;simp
       rw [e];exact vm bI hE ak _ bN
theorem Ai {P:Program} {b:Frame} {a:Act} {k:List Item} {cs:List Frame} {w:World} {c:Code}:
 step P (lone (b.atR a (.code (.scope c)::k)) cs w)=.next (lone (b.atR a (.code c::.inScope c::k)) cs w):=
 step_lone_go (by simp [stepG,stepG.exec,Frame.atR])
theorem amW {P:Program} {b:Frame} {a:Act} {k:List Item} {cs:List Frame} {w:World} {c:Code}:
 step P (lone (b.atR a (.inScope c::k)) cs w)=.next (lone (b.atR a k) cs w):=
 step_lone_go (by simp [stepG,stepG.exec,Frame.atR])
theorem Mg {P:Program} {rd:Option Nat} {c:Code} {Q:Exit->Act->World->Prop} {a:Act} {w:World} (h:c.wpIn (cc rd) 0 P (Exit.noGoto Q) a w):(Code.scope c).wpIn (cc rd) 0 P Q a w:=by
 intro b k cs kD ak aD;obtain ⟨e,vX,xQ,ar,iS⟩:=h b (.inScope c::k) cs kD ak aD;have ao:∀id,exitTo id (.inScope c::k)=exitTo id k:=fun id=>by simp [exitTo]
 cases e with
 | normal=>exact ⟨.normal,vX,xQ,ar,.head (qk _) Ai (StepsIn.trans iS (.one (qk _) amW))⟩
 | exit id=>exact ⟨.exit id,vX,xQ,ar,fun bs aA=>.head (qk _) Ai (iS.1 bs (by rw [ao];exact aA)),fun qD aA=>let ⟨k₁,aa,ae⟩:=iS.2 qD (by rw [ao];exact aA);⟨k₁,aa,.head (qk _) Ai ae⟩⟩
 | goto l=>exact ar.elim
 | ret=>exact ⟨_,vX,xQ,ar,.of_steps (.one (qk _) Ai) iS⟩
 | panic aoB=>exact ⟨_,vX,xQ,ar,.of_steps (.one (qk _) Ai) iS⟩
 | outgrown=>exact ⟨_,vX,xQ,ar,.of_steps (.one (qk _) Ai) iS⟩
theorem aa7 (c':C.P.follows .mixedOrders=true) (bI:et C.P) (hg:p7 C) {ex:ix} (hex:tT C.P ex) (ay:Nat):∀c:Code,M4 C.P ay c ((jY C ay c).run ex):=by
 have cX:=aaC c' bI hg hex;have dJ:=aaB (C:=C) ex;intro c
 induction c with
 | skip=>
   intro rd aC r h aD E a w k s Q ai;exact wpIn_skip (ai E a w (Env.le.refl E) k s)
 | label l=>
   intro rd aC r h aD E a w k s Q ai;exact wpIn_label (ai E a w (Env.le.refl E) k s)
 | exit id=>
   intro rd aC r h aD E a w k s Q ai;exact wpIn_exit (ai E a w (Env.le.refl E) k s)
 | ret=>
   intro rd aC r h aD E a w k s Q ai;exact wpIn_ret (ai E a w (Env.le.refl E) k s)
 | region id ops draw=>
   intro rd aC r h aD E a w k s Q ai;have lift:∀x:mN,x7 aC E ay Q (match x with | .ok bb ab=>.ok .normal bb ab | .cL v bb ab=>.cL v bb ab | .fail=>.fail)->ot aC E ay (Q .normal) Q x:=by intro x ao;cases x<;>exact ao
   cases draw with
   | true=>
     simp only [jY,ap8,GJ] at ai;exact abR c' bI cX dJ (lift _ ai) k s
   | false=>
     simp only [jY,aqe,GJ] at ai;refine wpIn_region ?_;have:=UX (rd:=rd) (Q:=Q) bI cX dJ ops.toList 0 (fun j=>by simp) (aD.imp (fun h=>h) fun h=>by simpa only [noMark,aqu] using h) E r h a w (lift _ ai) k s;rw [List.range_eq_range'];simpa using this
 | seq x y qK qL=>
   intro rd aC r h aD E a w k s Q ai;simp only [jY,V'] at ai;have zd:rd=none\/noMark x=true:=aD.imp (fun h=>h) fun h=>by simp only [noMark,ap2] at h;exact h.1
   have Kn:rd=none\/noMark y=true:=aD.imp (fun h=>h) fun h=>by simp only [noMark,ap2] at h;exact h.2
   refine wpIn_seq (qK rd aC r h zd E a w k s _ ?_).wp;cases ao:(jY C ay x).run ex r h with
   | fail=>rw [ao] at ai;exact ai
   | cL v a8 aa=>rw [ao] at ai;exact ai
   | ok ax a8 aa=>
     rw [ao] at ai;simp only at ai;intro az bn w' al au aJ;cases ax with
     | normal=>exact (qL rd aC a8 aa Kn az bn w' au aJ Q (ai.up al)).wp
     | exit id=>exact ai az bn w' al au aJ
     | ret=>exact ai az bn w' al au aJ
 | cond c x y qK qL=>
   intro rd aC r h aD E a w k s Q ai;simp only [jY,Qw] at ai;have zd:rd=none\/noMark x=true:=aD.imp (fun h=>h) fun h=>by simp only [noMark,ap2] at h;exact h.1
   have Kn:rd=none\/noMark y=true:=aD.imp (fun h=>h) fun h=>by simp only [noMark,ap2] at h;exact h.2
   have av:=dD k.toRegRel0 c;cases bz:(bX c).run r<;>rw [bz] at ai av<;>simp only at ai<;>try (exact ai.elim)
   rename_i t;simp only [Rel] at av;cases t with
   | true=>exact wpIn_cond_true av (qK rd aC r h zd E a w k s Q ai).wp
   | false=>exact wpIn_cond_false av (qL rd aC r h Kn E a w k s Q ai).wp
 | block id x bd=>
   intro rd aC r h aD E a w k s Q ai;simp only [jY,N6] at ai;refine wpIn_block (bd rd aC r h (aD.imp (fun h=>h) fun h=>h) E a w k s _ ?_).wp;cases ao:(jY C ay x).run ex r h with
   | fail=>rw [ao] at ai;exact ai
   | cL v a8 aa=>rw [ao] at ai;exact ai
   | ok ax a8 aa=>
     rw [ao] at ai;simp only at ai;intro az bn w' al au aJ;cases ax with
     | normal=>exact ai az bn w' al au aJ
     | ret=>exact ai az bn w' al au aJ
     | exit i=>
       simp only [h1] at ai;simp only [toExit,Exit.inBlock];by_cases aB:i=id
       . rw [aqf aB] at ai ⊢;exact ai az bn w' al au aJ
       . rw [aqa aB] at ai ⊢;exact ai az bn w' al au aJ
 | loop x bd=>
   intro rd aC r h aD E a w k s Q ai;simp only [jY,T_] at ai;have zd:rd=none\/noMark x=true:=aD.imp (fun h=>h) fun h=>h;intro b cN cs kD;cases ao:(jY C ay x).run ex r h with
   | fail=>rw [ao] at ai;exact ai.elim
   | cL v a8 aa=>
     rw [ao] at ai;have body:=(bd rd aC r h zd E a w k s (fun c7 bn w'=>∃y,c7=.panic y/\Q c7 bn w') (by rw [ao];exact fun az bn w' x al au aJ bE=>⟨_,rfl,ai az bn w' x al au aJ bE⟩)).wp b (.inLoop x::cN) cs kD trivial (GN _);obtain ⟨aH,a2,bN,⟨y,rfl,q⟩,iS⟩:=body;exact ⟨_,a2,bN,q,.pass (x:=.inLoop x) rfl (fun _ _=>.inl (by simp)) iS⟩
   | ok ax a8 aa=>
     rw [ao] at ai;simp only at ai;have body:=(bd rd aC r h zd E a w k s
      (fun c7 bn w'=>c7=toExit ax/\∃az,E.le az/\fv az ay a8 bn/\bc aC az aa w') (by rw [ao];exact fun az bn w' al au aJ=>⟨rfl,az,al,au,aJ⟩)).wp b (.inLoop x::cN) cs kD trivial (GN _)
     obtain ⟨aH,a2,bN,⟨rfl,bO,al,au,aJ⟩,iS⟩:=body;cases ax with
     | normal=>
       have next:=hex ay (.loop x) rd aC a8 aa aD bO a2 bN au aJ Q (ai.up al)
       obtain ⟨bA,a3,ly,cq,cx⟩:=next b cN cs kD
       exact ⟨bA,a3,ly,cq,.of_steps (StepsIn.trans iS (.one (qk _) stepR_inLoop)) cx⟩
     | exit id=>exact ⟨.exit id,a2,bN,ai bO a2 bN al au aJ,.pass (x:=.inLoop x) rfl (fun _ _=>.inl (by simp)) iS⟩
     | ret=>exact ⟨.ret,a2,bN,ai bO a2 bN al au aJ,.pass (x:=.inLoop x) rfl (fun _ _=>.inl (by simp)) iS⟩
 | scope x bd=>
   intro rd aC r h aD E a w k s Q ai;simp only [jY] at ai;refine Mg (bd rd aC r h (aD.imp (fun h=>h) fun h=>h) E a w k s _ ?_).wp;cases ao:(jY C ay x).run ex r h with
   | fail=>rw [ao] at ai;exact ai
   | cL v a8 aa=>rw [ao] at ai;exact ai
   | ok ax a8 aa=>
     rw [ao] at ai;intro az bn w' al au aJ;have:=ai az bn w' al au aJ;cases ax<;>exact this
 | rangeFunc f bo x y _ _=>
   intro rd aC r h aD E a w k s Q ai;rcases aD with rfl | aD
   case inr=>cases aD
   simp only [jY] at ai;exact alK c' bI hg hex k s ai
 | goto l=>intro rd aC r h aD E a w k s Q ai;exact ai.elim
 | refuse WX=>intro rd aC r h aD E a w k s Q ai;exact ai.elim
end
section
variable {C:Ctx}
theorem Rk (c':C.P.follows .mixedOrders=true) (bI:et C.P) (hg:p7 C):∀n,tT C.P (exec C n)
 | 0=>fun ay c rd aC r h aD E a w k s Q ai=>ai.elim
 | n+1=>fun ay c=>aa7 c' bI hg (Rk c' bI hg n) ay c
theorem Ip (c':C.P.follows .mixedOrders=true) (bI:et C.P) (hg:p7 C) {n:Nat} {f:FuncId} {args:List V} {h ab:ag} {v:V} (aF:Nat.beq f dy=false) (ao:C.ext f=none) (he:sN C n f args h=.val v ab)
 {aC:Fr} {E:Env} {w:World} {xs:List Value} (aw:bj E args xs) (s:bc aC E h w):
 (∃fn,C.P.funcs[f]? =some fn/\fn.body.isSome=true)/\Calls C.P f xs.toArray w fun e w'=>∃az x,e=.returned x/\E.le az/\Rel az v x/\bc aC az ab w':=by
 unfold sN sO at he;rw [aF,aqe,ao] at he;simp only at he;exact EP bI c' hg (Rk c' bI hg n) aw s (by rw [he];exact fun az x w' al au aJ=>⟨az,x,rfl,al,au,aJ⟩)
theorem GX (w:World) (hw:Lay.ok w):bc ⟨w,fun _=>none⟩ (fun _=>none) ag.empty w:=by
 refine ⟨fun b _=>?_,fun _ _ h=>(by cases h),(fun b bR p p' _ _ h=>by cases h),fun _ _=>rfl,Below.refl _ _,hw,(fun _ _ _ _ _ _ h=>by cases h)⟩;have:ag.empty.get b=.dead:=by simp [ag.get,ag.empty]
 rw [this];trivial
theorem anv (c':C.P.follows .mixedOrders=true) (bI:et C.P) {w:World} (hw:Lay.ok w) (hg:p7 C) {n:Nat} {f:FuncId} (aF:Nat.beq f dy=false) (ao:C.ext f=none) (h:MJ C n f []=true):
 Calls C.P f #[] w fun e w'=>e=.returned (.bool true)/\Below w.heap.size w w':=by
 unfold MJ at h;cases av:sN C n f [] ag.empty with
 | fail=>rw [av] at h;cases h
 | cL _ _=>rw [av] at h;cases h
 | val v a_=>
   rw [av] at h;simp only at h;cases v<;>simp only at h<;>try (cases h;done)
   subst h;obtain ⟨_,e2⟩:=Ip c' bI hg aF ao av (aC:=⟨w,fun _=>none⟩) (E:=fun _=>none) (w:=w) (xs:=[]) rfl (GX w hw);refine e2.mono fun e w' ar=>?_;obtain ⟨az,x,rfl,_,au,aJ⟩:=ar;simp only [Rel] at au;subst au;exact ⟨rfl,aJ.frame⟩
end
end
section
open Go Go.RowKit Go.ChangeShapes Go.WideShapes
variable [Lay]
section
variable {H:Type} {enc:TypeId × Value->H} {P:Program}
end
end
section
open Go Go.RowKit
variable [Lay]
theorem bc.below {aC:Fr} {E:Env} {h:ag} {w w':World} (s:bc aC E h w) (ak:Below w.heap.size w w'):bc aC E h w':=by
 have cu:aC.w.heap.size<=w.heap.size:=s.frame.size;have fc:∀(k:Nat) (o:Obj),w.heap[k]? =some o->w'.heap[k]? =some o:=by
  intro k o aA;rw [ak.block k,aA];by_cases aN:k<w.heap.size
  . exact aN
  . rw [arY (by omega)] at aA;cases aA
 refine ⟨fun b ai=>?_,s.oW,s.inj,s.fresh,s.frame.trans (ak.mono cu),s.laid,s.base⟩;have:=s.a' b ai;cases aA:h.get b<;>rw [aA] at this<;>simp only [fR] at this ⊢
 . obtain ⟨al,p,c,el,b4,au,aJ,bE,c1⟩:=this;exact ⟨al,p,c,el,b4,au,aJ,fc _ _ bE,c1⟩
 . obtain ⟨al,p,c,el,b4,au,aJ,bE,c1⟩:=this;exact ⟨al,p,c,el,b4,au,aJ,fc _ _ bE,c1⟩
 . obtain ⟨p,al,au,aJ,bE⟩:=this;exact ⟨p,al,au,aJ,fc _ _ bE⟩
 . obtain ⟨p,a,al,au,aJ,bE⟩:=this;exact ⟨p,a,al,au,fc _ _ aJ,bE⟩
 . obtain ⟨p,o,al,au,aJ,bE⟩:=this;exact ⟨p,o,al,au,fc _ _ aJ,bE⟩
 . obtain ⟨p,al,au,aJ⟩:=this;exact ⟨p,al,au,fc _ _ aJ⟩
 . obtain ⟨p,a,c,l,al,au,aJ,bE⟩:=this;exact ⟨p,a,c,l,al,au,fc _ _ aJ,bE⟩
 . obtain ⟨p,m,a,al,au,aJ,bE,c1⟩:=this;exact ⟨p,m,a,al,au,aJ,fc _ _ bE,c1⟩
theorem aiC {P:Program} {f:FuncId} {args:List V} {v:V} {h:ag} (H:∀E xs w,Lay.ok w->bj E args xs->Calls P f xs.toArray w fun e w'=>∃x,e=.returned x/\Rel E v x/\Below w.heap.size w w')
 (aC:Fr) (E:Env) (w:World) (xs:List Value) (ao:bj E args xs) (s:bc aC E h w):Calls P f xs.toArray w fun e w'=>∃az x,e=.returned x/\E.le az/\Rel az v x/\bc aC az h w':=by
 refine (H E xs w (Lay.fc s.laid s.frame) ao).mono fun e w' q=>?_;obtain ⟨x,rfl,bz,ak⟩:=q;exact ⟨E,x,rfl,Env.le.refl E,bz,s.below ak⟩
theorem aco {P:Program} {f:FuncId} {fn:Func} {e:Array Value->Sem Value} (aF:P.funcs[f]? =some fn) (aW:(fn.name == "runtime.NumGoroutine")=false) (ak:fn.body.isNone=true) (aa:Extern.findNext fn=none) (ae:Extern.find fn=some e)
 {xs:Array Value} {x:Value} {w:World} (aD:(e xs).run P w=.ok x w):(callFunc f xs).run P w=.ok (.value x) w:=by
 simp only [callFunc,Sem.run_bind,run_program,Result.andThen_ok,aF];rw [aqa (by rw [aW];simp),aqf ak];simp only [Sem.run_bind,aa,ae];have hm:(mark (.extern f)).run P w=.ok () w:=rfl;rw [hm];simp only [Result.andThen_ok,aD,Sem.run_pure]
def Ch (c:Nat):List UInt8->Nat->Int
 | [],_=>-1
 | b::l,i=>bif Nat.beq b.toNat c then .ofNat i else Ch c l (i+1)
theorem Tu (c:Nat) (av:c<256):∀(l:List UInt8) (i:Nat),Ch c l i=if Lib.indexByte l c.toUInt8=-1 then -1 else Lib.indexByte l c.toUInt8+i
 | [],i=>by simp [Ch,Lib.indexByte]
 | b::l,i=>by
   have kd:=Lib.indexByte_ge l c.toUInt8;have qq:(b.toNat=c)↔(b == c.toUInt8)=true:=by
    rw [arO,<-ash];have:c.toUInt8.toNat=c:=by show c % 256=c;omega
    rw [this]
   have e:Lib.indexByte (b::l) c.toUInt8=if (b == c.toUInt8)=true then 0 else if (Lib.indexByte l c.toUInt8 == -1)=true then -1 else Lib.indexByte l c.toUInt8+1:=rfl;simp only [Ch,Tu c av l (i+1),h1];by_cases h:b.toNat=c
   . rw [aqf (qq.1 h)] at e;rw [aqf h,e];simp
   . rw [aqa (fun e=>h (qq.2 e))] at e;rw [aqa h];by_cases ae:Lib.indexByte l c.toUInt8=-1
     . rw [ae] at e;simp only [beq_self_eq_true,aqB] at e;simp [ae,e]
     . have aM:(Lib.indexByte l c.toUInt8 == -1)=false:=by simpa using ae
       rw [aM] at e;simp only [aqd,aqD] at e;rw [aqa ae,e,aqa (by omega)];omega
def preB:List UInt8->List UInt8->Bool
 | [],_=>true
 | _::_,[]=>false
 | a::x,b::y=>bif Nat.beq a.toNat b.toNat then preB x y else false
theorem LK:∀(x y:List UInt8),preB x y=x.isPrefixOf y
 | [],y=>by cases y<;>rfl
 | _::_,[]=>rfl
 | a::x,b::y=>by
   simp only [preB,List.isPrefixOf,h1,LK x y];by_cases h:a.toNat=b.toNat
   . have:a=b:=ash.1 h;subst this;simp
   . have:(a == b)=false:=by
      rw [arw];exact fun e=>h (by rw [e])
     rw [aqa h,this];rfl
def hasB:List UInt8->List UInt8->Bool
 | [],sub=>preB sub []
 | b::l,sub=>bif preB sub (b::l) then true else hasB l sub
theorem Sb:∀(s sub:List UInt8),hasB s sub=Lib.contains s sub
 | [],sub=>by simp only [hasB,LK,Lib.contains,Lib.index];cases sub<;>simp
 | b::l,sub=>by
   simp only [hasB,LK];have bd:=Sb l sub;unfold Lib.contains at bd ⊢;unfold Lib.index;cases h:sub.isPrefixOf (b::l) with
   | true=>simp
   | false=>
     simp only [aqe,aqd,aqD,bd];have kd:=Lib.index_ge l sub;cases ae:(Lib.index l sub == -1) with
     | true=>
       have:Lib.index l sub=-1:=by simpa using ae
       simp [this]
     | false=>
       have:Lib.index l sub≠-1:=by simpa using ae
       simp only [aqd,aqD];rw [aqX,aqg,aqg];omega
def Iv:DO:=⟨fun args h=>match args with
 | [x,y]=>(match x with
   | .str s=>(match y with
     | .str sub=>bif Nat.ble s.length 100000 then .val (.bool (hasB s sub)) h else .fail
     | _=>.fail)
   | _=>.fail)
 | _=>.fail⟩
theorem abg {args:List V} {h ab:ag} {v:V} (he:Iv.run args h=.val v ab):∃s sub,args=[.str s,.str sub]/\s.length<=100000/\v=.bool (Lib.contains s sub)/\ab=h:=by
 simp only [Iv] at he
 split at he
 case h_2=>cases he
 split at he
 case h_2=>cases he
 split at he
 case h_2=>cases he
 obtain ⟨av,aa⟩:=kv he;simp only [ba.val.injEq] at aa;obtain ⟨rfl,rfl⟩:=aa;exact ⟨_,_,rfl,aqQ av,by rw [Sb],rfl⟩
def FJ:DO:=⟨fun args h=>match args with
 | [x,y]=>(match x with
   | .str s=>(match y with
     | .int k c=>bif pn k .u8&&(Int.leB 0 c&&Nat.blt c.toNat 256) then .val (.int .i64 (Ch c.toNat s 0)) h else .fail
     | _=>.fail)
   | _=>.fail)
 | _=>.fail⟩
theorem aga {args:List V} {h ab:ag} {v:V} (he:FJ.run args h=.val v ab):∃s c,args=[.str s,.int .u8 c]/\v=.int .i64 (Lib.indexByte s c.toNat.toUInt8)/\ab=h:=by
 simp only [FJ] at he
 split at he
 case h_2=>cases he
 split at he
 case h_2=>cases he
 split at he
 case h_2=>cases he
 rename_i s _ k c;obtain ⟨av,aa⟩:=kv he;simp only [ap2,aqA] at av;have aA:=uy av.1;subst aA;simp only [ba.val.injEq] at aa;obtain ⟨rfl,rfl⟩:=aa;refine ⟨s,c,rfl,?_,rfl⟩;rw [Tu _ av.2.2];by_cases h:Lib.indexByte s c.toNat.toUInt8=-1
 . rw [aqf h,h]
 . rw [aqa h];simp
theorem af_ {P:Program} {f:FuncId} {fn:Func} (aF:P.funcs[f]? =some fn) (aW:(fn.name == "runtime.NumGoroutine")=false) (ak:fn.body.isNone=true) (aa:Extern.findNext fn=none) (ae:Extern.find fn=some Extern.BytealgIndexByte.indexByte)
 {args:List V} {h ab:ag} {v:V} (he:FJ.run args h=.val v ab) (aC:Fr) (E:Env) (w:World) (xs:List Value) (ao:bj E args xs) (s:bc aC E h w):
 ∃az x w',(callFunc f xs.toArray).run P w=.ok (.value x) w'/\E.le az/\Rel az v x/\bc aC az ab w':=by
 obtain ⟨t,c,rfl,rfl,rfl⟩:=aga he;obtain ⟨y,cy,rfl,al,z,vw,rfl,au,rfl⟩:=ao;simp only [Rel] at al au;subst al au;exact ⟨E,_,w,aco aF aW ak aa ae (Lib.run_indexByteString _ _ _),Env.le.refl E,by simp [Rel],s⟩
inductive aX where
 | t (n:Nat)
 | c (v:V)
abbrev bg:=Nat->V
def aX.aT (r:bg):aX->V
 | .t n=>r n
 | .c v=>v
def aX.fV (r:bg):List aX->List V
 | []=>[]
 | x::xs=>x.aT r::aX.fV r xs
def rx:Operand->aX
 | .tmp t=>bif Nat.ble t top then .t t else .c .bad
 | .const v=>.c (hT v)
 | .func f=>bif Nat.beq f dy then .c .bad else .c (.func f [])
 | .global _=>.c .bad
def ob:List Operand->List aX
 | []=>[]
 | x::xs=>rx x::ob xs
def aX.opt (r:bg):Option aX->Option V
 | none=>none
 | some x=>some (x.aT r)
def tE:Option Operand->Option aX
 | none=>none
 | some x=>some (rx x)
inductive eK where
 | int (op:BinOp)
 | str (op:BinOp)
 | shl
 | shr
 | yv (neg:Bool)
 | lL (neg:Bool) (k:Nat)
 | other (op:BinOp) (t:TypeId)
def eK.run (P:Program):eK->V->V->Option V
 | .int op=>(mx op).run
 | .str op=>(tI op).run
 | .shl=>(xD true).run
 | .shr=>(xD false).run
 | .yv neg=>(jZ neg rB).run
 | .lL neg k=>(jZ neg (hB k)).run
 | .other op t=>(sJ P op t).run
inductive tS where
 | int (k:IntKind)
 | bytes
 | str
 | other (s d:TypeId)
def tS.run (P:Program):tS->V->ag->ba
 | .int k=>fun x h=>x.eB .fail fun _ n=>.val (.int k (k.wrap n)) h
 | .bytes=>Bf.run
 | .str=>uu.run
 | .other s d=>(rv P s d).run
inductive kS where
 | int | str | bool
def kS.eq:kS->dL
 | .int=>iC
 | .str=>kb
 | .bool=>rB
inductive DJ where
 | arr (n:Nat)
 | str
 | slice
 | map
inductive G where
 | bad
 | bV (x:aX)
 | pick (c a b:aX)
 | new (z:List V)
 | box (x:aX)
 | build (z:List V) (bo:List (Nat × Nat × aX))
 | iB (len size:Nat) (z:List V) (bo:List (Nat × Nat × aX))
 | eD (x:aX)
 | fX (size:Nat) (x:aX)
 | st (size:Nat) (x y:aX)
 | tr (x:aX)
 | bin (k:eK) (x y:aX)
 | un (op:UnOp) (x:aX)
 | cl (k:tS) (x:aX)
 | fn (f:FuncId) (eY:List aX)
 | Cy (f:FuncId) (first:List aX)
 | D2 (t:TypeId) (z:Option V) (ok:Bool) (x:aX)
 | ta (t:TypeId) (x:aX)
 | zC (size:Nat) (z:List V) (l c:aX)
 | sg (x:aX) (bu aB ew:Option aX)
 | ea (size:Nat) (x:aX) (bu aB ew:Option aX)
 | fy (off:Nat) (x:aX)
 | sV (off:Nat) (x:aX)
 | wu (off size:Nat) (x:aX)
 | bQ (size:Nat) (x i:aX)
 | uS (n size:Nat) (x i:aX)
 | nh (x i:aX)
 | ki (t:TypeId) (x i:aX)
 | look (k:kS) (z:V) (ok:Bool) (x i:aX)
 | q5 (k:kS) (m i x:aX)
 | tp (x:Option aX)
 | zY (x:aX)
 | xj (x:aX)
 | ext (x:aX) (i:Nat)
 | call (f:FuncId) (args:List aX)
 | qb (f:aX) (args:List aX)
 | len (k:DJ) (x:aX)
 | app (size:Nat) (s x:aX)
 | copy (size:Nat) (d s:aX)
 | zD (args:List aX)
 | ew (args:List aX)
 | Qs (z:List V) (x:aX)
 | yj (x:aX)
 | A0 (size:Nat) (z:List V) (s x:aX)
 | zz (z:V) (ok:Bool) (x i:aX)
 | looks (k:TypeId) (z:V) (ok:Bool) (x i:aX)
 | Da (m i x:aX)
 | xJ (k:TypeId) (m i x:aX)
 | Cx (z:V) (m i:aX)
 | zB (k:TypeId) (z:V) (m i:aX)
 | yy (m s x:aX)
 | zX (x:aX)
 | nq (x:aX)
 | ys (x:aX)
 | xo (neg:Bool) (x y:aX)
def kX (r:bg):List (Nat × Nat × aX)->List (Nat × Nat × V)
 | []=>[]
 | (o,s,x)::bo=>(o,s,x.aT r)::kX r bo
def jE:List V->List (Nat × Nat × V)->Option (List V)
 | cells,[]=>some cells
 | cells,(off,size,v)::rest=>bif v.fD&&(Nat.beq v.cells.length size&&Nat.ble (off+v.cells.length) cells.length) then jE (sU cells off v.cells) rest else none
def DJ.run:DJ->V->ag->ba
 | .arr n=>fun _ h=>.val (.int .i64 n) h
 | .str=>fun x h=>ba.of h ((pN .string).run x)
 | .slice=>fun x h=>ba.of h ((pN (.slice 0)).run x)
 | .map=>fun x h=>xc [x] h
def zQ (neg:Bool) (h:ag) (x y:V):Option V:=
 match j5 h x y with
 | some b=>some (.bool (bif neg then !b else b))
 | none=>none
def G.run (P:Program) (g:G) (call:dX) (r:bg) (h:ag):ba:=
 match g with
 | .bad=>.fail
 | .bV x=>.val (x.aT r) h
 | .pick c a b=>match c.aT r with
   | .bool t=>.val (bif t then a.aT r else b.aT r) h
   | _=>.fail
 | .new z=>ho (.ptr (aG h.next) 0) (gJ h z)
 | .box x=>bif (x.aT r).fD then ho (.ptr (aG h.next) 0) (gJ h (x.aT r).cells) else .fail
 | .build z bo=>(match jE z (kX r bo) with
   | some cs=>.val (.agg cs) h
   | none=>.fail)
 | .iB n _ z bo=>match jE (ja z n) (kX r bo) with
   | some cs=>(match gJ h cs with
     | some ab=>.val (.slice (aG h.next) 0 n n) ab
     | none=>.fail)
   | none=>.fail
 | .eD x=>ba.of h (n1 h (x.aT r))
 | .fX n x=>ba.of h (n0 n h (x.aT r))
 | .st n x y=>ho .bad (xE n h (x.aT r) (y.aT r))
 | .tr x=>ba.of h (u7 (x.aT r))
 | .bin k x y=>ba.of h (k.run P (x.aT r) (y.aT r))
 | .un op x=>ba.of h (si op (x.aT r))
 | .cl k x=>k.run P (x.aT r) h
 | .fn f eY=>.val (.func f (aX.fV r eY)) h
 | .Cy f first=>.val (.mC f (aX.fV r first)) h
 | .D2 t z ok x=>ba.of h (A4 t z ok (x.aT r))
 | .ta t x=>.val (.iface t (x.aT r)) h
 | .zC n z l c=>u3 n z (l.aT r) (c.aT r) h
 | .sg x bu aB m3=>ba.of h (nt (x.aT r) (aX.opt r bu) (aX.opt r aB) (aX.opt r m3))
 | .ea n x bu aB m3=>ba.of h (match x.aT r with
   | .bL=>Ae (aX.opt r bu) (aX.opt r aB) (aX.opt r m3)
   | .slice b off tj cap=>q0 n b off tj cap (aX.opt r bu) (aX.opt r aB) (aX.opt r m3)
   | .ee b off tj idx=>sf n b off tj idx (aX.opt r bu) (aX.opt r aB) (aX.opt r m3)
   | .gB b off kJ idx=>Af b off kJ idx (aX.opt r bu) (aX.opt r aB) (aX.opt r m3)
   | _=>none)
 | .fy off x=>ba.of h ((x.aT r).jK none fun b o=>some (.ptr b (o+off)))
 | .sV off x=>ba.of h (match x.aT r with
   | .agg cs=>cs[off]?
   | _=>none)
 | .wu off n x=>ba.of h (match x.aT r with
   | .agg cs=>some (.agg ((cs.drop off).take n))
   | _=>none)
 | .bQ n x i=>ba.of h ((w9 n).run (x.aT r) (i.aT r))
 | .uS n s x i=>ba.of h ((tc n s).run (x.aT r) (i.aT r))
 | .nh x i=>ba.of h (te.run (x.aT r) (i.aT r))
 | .ki t x i=>ba.of h ((td P t).run (x.aT r) (i.aT r))
 | .look k z ok x i=>ba.of h (iq k.eq z ok h (x.aT r) (i.aT r))
 | .q5 k m i x=>ho .bad (kO k.eq h (m.aT r) (i.aT r) (x.aT r))
 | .tp x=>r5 (aX.opt r x) h
 | .zY x=>(match x.aT r with
   | .str s=>.val (.ptr (aG h.next) 0) (h.new (.iter s 0))
   | _=>.fail)
 | .xj x=>xi (x.aT r) h
 | .ext x i=>(match x.aT r with
   | .tuple ah=>ba.of h ah[i]?
   | _=>.fail)
 | .call f args=>call f (aX.fV r args) h
 | .qb f args=>(f.aT r).zK (aX.fV r args) fun g xs=>call g xs h
 | .len k x=>k.run (x.aT r) h
 | .app n s x=>lF n (s.aT r) (x.aT r) h
 | .copy n d s=>copyV n (d.aT r) (s.aT r) h
 | .zD args=>ba.of h (lk (fun b a=>!Int.leB a b) (aX.fV r args))
 | .ew args=>ba.of h (lk (fun b a=>!Int.leB b a) (aX.fV r args))
 | .Qs z x=>Eg z (x.aT r) h
 | .yj x=>ba.of h (ur (x.aT r))
 | .A0 n z s x=>DZ n z (s.aT r) (x.aT r) h
 | .zz z ok x i=>ba.of h (hI ⟨j5 h⟩ z ok h (x.aT r) (i.aT r))
 | .looks k z ok x i=>ba.of h (bif lW P k (i.aT r) then hI (structEq P k) z ok h (x.aT r) (i.aT r) else none)
 | .Da m i x=>ho .bad (kO ⟨j5 h⟩ h (m.aT r) (i.aT r) (x.aT r))
 | .xJ k m i x=>ho .bad (bif lW P k (i.aT r) then kO (structEq P k) h (m.aT r) (i.aT r) (x.aT r) else none)
 | .Cx z m i=>Ey z (m.aT r) (i.aT r) h
 | .zB k z m i=>yr P k z (m.aT r) (i.aT r) h
 | .yy m s x=>ho .bad (rA h (m.aT r) (s.aT r) (x.aT r))
 | .zX x=>rangeMap (x.aT r) h
 | .nq x=>gY (x.aT r) h
 | .ys x=>ux (x.aT r) h
 | .xo neg x y=>ba.of h (zQ neg h (x.aT r) (y.aT r))
def L2 (P:Program) (op:BinOp) (t:TypeId):eK:=
 match op with
 | .shl=>.shl
 | .shr=>.shr
 | op=>match bf P t with
   | none=>.other op t
   | some aS=>match aS.bk with
     | .int _=>.int op
     | .string=>.str op
     | .bool=>(match op with
       | .eql=>.yv false
       | .neq=>.yv true
       | _=>.other op t)
     | .pointer _=>(match op with
       | .eql=>.lL false 1
       | .neq=>.lL true 1
       | _=>.other op t)
     | .slice _=>(match op with
       | .eql=>.lL false 2
       | .neq=>.lL true 2
       | _=>.other op t)
     | .map _ _=>(match op with
       | .eql=>.lL false 3
       | .neq=>.lL true 3
       | _=>.other op t)
     | .func _ _ _=>(match op with
       | .eql=>.lL false 4
       | .neq=>.lL true 4
       | _=>.other op t)
     | _=>.other op t
def L6 (P:Program) (op:BinOp) (t:TypeId) (lit:Bool):eK:=
 bif lit then (match bf P t with
  | some aS=>match aS.bk with
    | .interface _=>match op with
      | .eql=>.lL false 5
      | .neq=>.lL true 5
      | _=>.lL false 99
    | _=>.lL false 99
  | none=>.lL false 99) else L2 P op t
def L5 (P:Program) (s d:TypeId):tS:=
 match bf P s,bf P d with
 | some vo,some pk=>match pk.bk with
   | .int k=>.int k
   | .string=>match vo.bk with
     | .slice e=>match bf P e with
       | some bh=>match bh.bk with
         | .int .u8=>.str
         | _=>.other s d
       | none=>.other s d
     | _=>.other s d
   | .slice e=>match bf P e with
     | some bh=>match bh.bk with
       | .int .u8=>.bytes
       | _=>.other s d
     | none=>.other s d
   | _=>.other s d
 | _,_=>.other s d
def qU (place:Nat->Option (Nat × Nat)):List (Nat × Operand)->Option (List (Nat × Nat × aX))
 | []=>some []
 | (i,x)::bo=>match place i with
   | none=>none
   | some (off,size)=>match qU place bo with
     | none=>none
     | some l=>some ((off,size,rx x)::l)
def L3 (P:Program) (t:TypeId) (bo:List (Nat × Operand)):G:=
 match bf P t with
 | some aS=>match aS.zero with
   | some z=>match aS.bk with
     | .struct b9=>bif EK P b9.toList then (match qU (yB P b9) bo with
       | some l=>.build z.cells l
       | none=>.bad) else .bad
     | .array _ e=>match bf P e with
       | some bh=>(match qU (fun i=>some (i * bh.size,bh.size)) bo with
         | some l=>.build z.cells l
         | none=>.bad)
       | none=>.bad
     | _=>.bad
   | none=>.bad
 | none=>.bad
def L7 (P:Program) (t:TypeId) (len:Nat) (bo:List (Nat × Operand)):G:=
 match bf P t with
 | some aS=>match aS.bk with
   | .slice e=>match bf P e with
     | some bh=>match bh.zero with
       | some z=>bif Nat.ble (len * bh.size) 1000000&&Nat.beq z.cells.length bh.size then
          (match qU (fun i=>some (i * bh.size,bh.size)) bo with
          | some l=>.iB len bh.size z.cells l
          | none=>.bad) else .bad
       | none=>.bad
     | none=>.bad
   | _=>.bad
 | none=>.bad
def xb:TypeDesc->Option kS
 | .int _=>some .int
 | .string=>some .str
 | .bool=>some .bool
 | _=>none
def It (P:Program) (t:TypeId):Option (List V):=
 match bf P t with
 | some aS=>match aS.bk with
   | .slice e=>match bf P e with
     | some bh=>match bh.zero with
       | some z=>some z.cells
       | none=>none
     | none=>none
   | _=>none
 | none=>none
theorem aa6 (P:Program) (t:TypeId):Bb P t=It P t:=rfl
def GK (P:Program) (c:Call):G:=
 match c.callee with
 | .value (.func f)=>bif Nat.beq f dy then .bad else .call f (ob c.args.toList)
 | .value x=>.qb (rx x) (ob c.args.toList)
 | .invoke _ _=>.bad
 | .builtin b=>match b with
   | .len=>match c.argTypes.toList,c.args.toList with
     | [t],[x]=>(match bf P t with
       | some aS=>(match aS.bk with
         | .map _ _=>.len .map (rx x)
         | .array n _=>.len (.arr n) (rx x)
         | .string=>.len .str (rx x)
         | .slice _=>.len .slice (rx x)
         | _=>.bad)
       | none=>.bad)
     | _,_=>.bad
   | .append=>match c.argTypes.toList,c.args.toList with
     | [t,u],[s,x]=>(match bf P t,bf P u with
       | some aS,some tM=>(match tM.bk with
         | .int _=>(match aS.bk with
           | .slice e=>(match bf P e with
             | none=>.bad
             | some bh=>match bh.zero with
               | none=>.bad
               | some z=>bif Nat.ble 1 bh.size&&Nat.ble bh.bytes 4096&&Nat.beq z.cells.length bh.size then .A0 bh.size z.cells (rx s) (rx x) else .bad)
           | _=>.bad)
         | _=>match aS.bk with
           | .slice e=>(match bf P e with
             | none=>.bad
             | some bh=>match bh.zero with
               | none=>.bad
               | some z=>bif Nat.ble 1 bh.size&&Nat.ble bh.bytes 4096&&Nat.beq z.cells.length bh.size then .app bh.size (rx s) (rx x) else .bad)
           | _=>.bad)
       | _,_=>.bad)
     | _,_=>.bad
   | .copy=>match c.argTypes.toList,c.args.toList with
     | t::_,[d,s]=>(match bf P t with
       | some aS=>(match aS.bk with
         | .slice e=>(match bf P e with
           | some bh=>.copy bh.size (rx d) (rx s)
           | none=>.bad)
         | _=>.bad)
       | none=>.bad)
     | _,_=>.bad
   | .min=>.zD (ob c.args.toList)
   | .max=>.ew (ob c.args.toList)
   | .clear=>match c.argTypes.toList,c.args.toList with
     | [t],[x]=>(match It P t with
       | some z=>.Qs z (rx x)
       | none=>.bad)
     | _,_=>.bad
   | .cap=>match c.argTypes.toList,c.args.toList with
     | [t],[x]=>(match bf P t with
       | some aS=>bif Cg aS.bk then .yj (rx x) else .bad
       | none=>.bad)
     | _,_=>.bad
   | _=>.bad
def vk (P:Program) (op:Op):G:=
 match op with
 | .move x=>.bV (rx x)
 | .assign x=>.bV (rx x)
 | .pick c a b=>.pick (rx c) (rx a) (rx b)
 | .alloc t=>(match bf P t with
   | some aS=>(match aS.zero with
     | some z=>.new z.cells
     | none=>.bad)
   | none=>.bad)
 | .box _ x=>.box (rx x)
 | .build t bo=>L3 P t bo.toList
 | .buildSlice t n bo=>L7 P t n bo.toList
 | .load t x=>(match bf P t with
   | none=>.bad
   | some aS=>bif aS.agg then .fX aS.size (rx x) else bif Nat.beq aS.size 1 then .eD (rx x) else .bad)
 | .store t x y=>(match bf P t with
   | none=>.bad
   | some aS=>.st aS.size (rx x) (rx y))
 | .nilCheck x=>.tr (rx x)
 | .binOp op t x y _=>.bin (L6 P op t (r3 x||r3 y)) (rx x) (rx y)
 | .unOp op _ x=>.un op (rx x)
 | .convert s d x=>.cl (L5 P s d) (rx x)
 | .makeFunc (.func f) first eY=>bif first.isEmpty&&!Nat.beq f dy then .fn f (ob eY.toList) else bif eY.isEmpty&&!Nat.beq f dy then .Cy f (ob first.toList) else .bad
 | .makeInterface t x=>(match bf P t with
   | some aS=>bif Nat.beq (fe aS.bk) 5 then .bad else .ta t (rx x)
   | none=>.bad)
 | .makeSlice t l c=>(match bf P t with
   | some aS=>(match aS.bk with
     | .slice e=>(match bf P e with
       | some bh=>(match bh.zero with
         | some z=>bif Nat.ble bh.bytes 4096 then .zC bh.size z.cells (rx l) (rx c) else .bad
         | none=>.bad)
       | none=>.bad)
     | _=>.bad)
   | none=>.bad)
 | .slice t x bu aB ew=>(match bf P t with
   | none=>.bad
   | some aS=>match aS.bk with
     | .string=>.sg (rx x) (tE bu) (tE aB) (tE ew)
     | .slice e=>(match bf P e with
       | none=>.bad
       | some bh=>.ea bh.size (rx x) (tE bu) (tE aB) (tE ew))
     | _=>.bad)
 | .fieldAddr t x i=>(match rG P t i with
   | none=>.bad
   | some f=>match bf P f.type with
     | none=>.bad
     | some kY=>bif Nat.beq kY.size 0 then .bad else .fy f.offset (rx x))
 | .field t x i=>(match rG P t i with
   | none=>.bad
   | some f=>match bf P f.type with
     | none=>.bad
     | some aS=>bif aS.agg then .wu f.offset aS.size (rx x) else .sV f.offset (rx x))
 | .indexAddr t x i=>(match bf P t with
   | none=>.bad
   | some aS=>match aS.bk with
     | .slice e=>(match bf P e with
       | none=>.bad
       | some bh=>.bQ bh.size (rx x) (rx i))
     | .array n e=>(match bf P e with
       | none=>.bad
       | some bh=>.uS n bh.size (rx x) (rx i))
     | _=>.bad)
 | .index t x i=>(match bf P t with
   | none=>.bad
   | some aS=>match aS.bk with
     | .string=>.nh (rx x) (rx i)
     | _=>.ki t (rx x) (rx i))
 | .range t x=>(match bf P t with
   | some aS=>(match aS.bk with
     | .string=>.zY (rx x)
     | .map _ _=>.zX (rx x)
     | _=>.bad)
   | none=>.bad)
 | .next it s=>bif s then .xj (rx it) else .nq (rx it)
 | .entry it=>.ys (rx it)
 | .lookup t x k ok=>(match bf P t with
   | some aS=>(match aS.bk with
     | .map bs e=>(match bf P bs with
       | some gP=>(match bf P e with
         | some bh=>(match bh.zero with
           | some z=>(match xb gP.bk with
             | some cN=>.look cN z ok (rx x) (rx k)
             | none=>bif k_ gP.bk then .bad else bif jM P bs then .zz z ok (rx x) (rx k) else bif mI P bs then .looks bs z ok (rx x) (rx k) else .bad)
           | none=>.bad)
         | none=>.bad)
       | none=>.bad)
     | _=>.bad)
   | none=>.bad)
 | .mapUpdate t m k x | .insert t m k x=>(match bf P t with
   | some aS=>(match aS.bk with
     | .map bs _=>(match bf P bs with
       | some gP=>(match xb gP.bk with
         | some cN=>.q5 cN (rx m) (rx k) (rx x)
         | none=>bif k_ gP.bk then .bad else bif jM P bs then .Da (rx m) (rx k) (rx x) else bif mI P bs then .xJ bs (rx m) (rx k) (rx x) else .bad)
       | none=>.bad)
     | _=>.bad)
   | none=>.bad)
 | .mapEntry t m k=>(match bf P t with
   | some aS=>(match aS.bk with
     | .map bs e=>(match bf P e with
       | some bh=>(match bh.zero with
         | some z=>bif jM P bs then .Cx z (rx m) (rx k) else bif mI P bs then .zB bs z (rx m) (rx k) else .bad
         | none=>.bad)
       | none=>.bad)
     | _=>.bad)
   | none=>.bad)
 | .entryStore _ m st x=>.yy (rx m) (rx st) (rx x)
 | .makeMap t x=>(match bf P t with
   | some aS=>bif Nat.beq (fe aS.bk) 3 then .tp (tE x) else .bad
   | none=>.bad)
 | .extract x i=>.ext (rx x) i
 | .typeAssert x _ t ok=>(match bf P t with
   | some aS=>bif Nat.beq (fe aS.bk) 5 then .bad else .D2 t aS.zero ok (rx x)
   | none=>.bad)
 | .call c=>GK P c
 | _=>.bad
def eg (cS:bJ):bg:=fun t=>T.get .bad (aG t) cS
theorem e1 (cS:bJ) (x:Operand):(bX x).run cS=(rx x).aT (eg cS):=by
 cases x with
 | tmp t=>
   simp only [bX,rx];cases Nat.ble t top<;>rfl
 | const v=>rfl
 | func f=>
   simp only [bX,rx];cases Nat.beq f dy<;>rfl
 | global g=>rfl
theorem yz (cS:bJ):∀xs:List Operand,(rE xs).run cS=aX.fV (eg cS) (ob xs)
 | []=>rfl
 | x::xs=>by simp only [rE,ob,aX.fV,e1,yz cS xs]
theorem Lu (cS:bJ) (x:Option Operand):(r8 x).run cS=aX.opt (eg cS) (tE x):=by
 cases x with
 | none=>rfl
 | some x=>simp only [r8,tE,aX.opt,e1]
theorem EL (cS:bJ) {place:Nat->Option (Nat × Nat)}:∀{bo:List (Nat × Operand)} {l:List (Nat × Nat × aX)},qU place bo=some l->∀cells,nJ place cells ((vc bo).run cS)=jE cells (kX (eg cS) l)
 | [],l,h,cells=>by simp only [qU,ap3] at h;subst h;rfl
 | (i,x)::bo,l,h,cells=>by
   simp only [qU] at h;cases ai:place i with
   | none=>rw [ai] at h;cases h
   | some os=>
     obtain ⟨off,size⟩:=os;rw [ai] at h;simp only at h;cases aw:qU place bo with
     | none=>rw [aw] at h;cases h
     | some eH=>
       rw [aw] at h;simp only [ap3] at h;subst h;simp only [vc,nJ,ai,kX,jE,e1];cases ((rx x).aT (eg cS)).fD&&(Nat.beq ((rx x).aT (eg cS)).cells.length size&&Nat.ble (off + ((rx x).aT (eg cS)).cells.length) cells.length) with
       | false=>rfl
       | true=>exact EL cS aw _
section
variable {P:Program}
theorem alR (op:BinOp) (t:TypeId):(L2 P op t).run P=(sJ P op t).run:=by
 unfold L2 sJ;cases op<;>first | rfl | skip
 all_goals
  cases aK:bf P t with
  | none=>simp only [eK.run];unfold sJ;rw [aK]
  | some aS=>
    simp only;cases hu:aS.bk<;>first | rfl | (simp only [eK.run];unfold sJ;rw [aK];simp only [hu];done) | (simp only [eK.run];unfold qi h3;simp only [aK,hu];first | done | rfl)
theorem alV (op:BinOp) (t:TypeId) (lit:Bool):(L6 P op t lit).run P=(A5 P op t lit).run:=by
 unfold L6 A5;cases lit with
 | false=>simp only [aqe];exact alR op t
 | true=>
   simp only [ap8];cases bf P t with
   | none=>rfl
   | some aS=>
     simp only;cases aS.bk<;>first | rfl | (cases op<;>rfl)
theorem alT (s d:TypeId):(L5 P s d).run P=(rv P s d).run:=by
 unfold L5
 split
 . rename_i vo pk aO aq
   split
   . rename_i k hu;simp only [tS.run];unfold rv;rw [aO,aq];simp only [hu]
   . rename_i hu
     split
     . rename_i e bz
       split
       . rename_i bh he
         split
         . rename_i hw;simp only [tS.run];unfold rv;rw [aO,aq];simp only [hu,bz,he,hw]
         . rfl
       . rfl
     . rfl
   . rename_i e hu
     split
     . rename_i bh he
       split
       . rename_i hw;simp only [tS.run];unfold rv;rw [aO,aq];simp only [hu,he,hw]
       . rfl
     . rfl
   . rfl
 . rfl
theorem KQ {d:TypeDesc} {cN:kS} (h:xb d=some cN):k_ d=true/\lV d=cN.eq:=by cases d<;>simp only [xb] at h<;>first | (cases h;done) | (cases h;exact ⟨rfl,rfl⟩)
theorem alS {c:Call} {call:dX} {cS:bJ} {h ab:ag} {v:V} (he:(GK P c).run P call (eg cS) h=.val v ab):(sM P c).run call cS h=.val v ab:=by
 unfold GK at he;unfold sM
 split at he
 . rename_i f av;rw [av];cases a6:Nat.beq f dy with
   | true=>rw [a6] at he;cases he
   | false=>
     rw [a6] at he;simp only [aqe,G.run] at he;simpa only [bX,a6,aqe,rD,V.zK,yz,aq7] using he
 . rename_i x ao av;rw [av];simp only [G.run] at he;simpa only [e1,yz] using he
 . cases he
 . rename_i b av;rw [av];simp only [yz];cases b<;>simp only at he<;>try (cases he;done)
   case len=>
    split at he
    . rename_i t x aK ao;cases k9:bf P t with
      | none=>rw [k9] at he;cases he
      | some aS=>
        rw [k9] at he;simp only at he;simp only [rp,aK,k9,ao,ob,aX.fV];cases hu:aS.bk<;>rw [hu] at he<;>first | (cases he;done) | (simpa only [uX,ap8,aqe,G.run,DJ.run,pN,ba.of] using he)
    . cases he
   case append=>
    split at he
    . rename_i t u s x aK ao
      split at he
      . rename_i aS tM k9 zj;simp only [rp,aK,ao,ob,aX.fV,DY,k9,zj]
        split at he
        . rename_i k afE
          split at he
          . rename_i e ct;cases eU:bf P e with
            | none=>rw [eU] at he;cases he
            | some bh=>
              rw [eU] at he;simp only at he;cases bl:bh.zero with
              | none=>rw [bl] at he;cases he
              | some z=>
                rw [bl] at he;simp only at he;cases ak:(Nat.ble 1 bh.size&&Nat.ble bh.bytes 4096&&Nat.beq z.cells.length bh.size) with
                | false=>rw [ak] at he;cases he
                | true=>
                  rw [ak] at he;simp only [ap8,G.run] at he;simp only [afE,ct,eU,bl,ak,ap8];exact he
          . cases he
        . rename_i cK
          split at he
          . rename_i e ct;cases eU:bf P e with
            | none=>rw [eU] at he;cases he
            | some bh=>
              rw [eU] at he;simp only at he;cases bl:bh.zero with
              | none=>rw [bl] at he;cases he
              | some z=>
                rw [bl] at he;simp only at he;cases ak:(Nat.ble 1 bh.size&&Nat.ble bh.bytes 4096&&Nat.beq z.cells.length bh.size) with
                | false=>rw [ak] at he;cases he
                | true=>
                  rw [ak] at he;simp only [ap8,G.run] at he;cases Kr:tM.bk<;>first
                   | (exact absurd Kr (cK _))
                   | (simp only [ct,eU,bl,ak,ap8];exact he)
          . cases he
      . cases he
    . cases he
   case copy=>
    split at he
    . rename_i t cM d s aK ao;cases k9:bf P t with
      | none=>rw [k9] at he;cases he
      | some aS=>
        rw [k9] at he;simp only at he
        split at he
        . rename_i e ct;cases eU:bf P e with
          | none=>rw [eU] at he;cases he
          | some bh=>
            rw [eU] at he;simp only [G.run] at he;simp only [rp,aK,ao,ob,aX.fV,Ei,k9,ct,eU];exact he
        . cases he
    . cases he
   case min=>exact he
   case max=>exact he
   case clear=>
    split at he
    . rename_i t x aK ao;cases av:It P t with
      | none=>rw [av] at he;cases he
      | some z=>
        rw [av] at he;simp only [G.run] at he;simp only [rp,aK,ao,ob,aX.fV,aa6,av];exact he
    . cases he
   case cap=>
    split at he
    . rename_i t x aK ao;cases k9:bf P t with
      | none=>rw [k9] at he;cases he
      | some aS=>
        rw [k9] at he;simp only at he;cases ak:Cg aS.bk with
        | false=>rw [ak] at he;cases he
        | true=>
          rw [ak] at he;simp only [ap8,G.run] at he;simp only [rp,aK,ao,ob,aX.fV,k9,ak,ap8];exact he
    . cases he
theorem VP {o:Oper} {call:dX} {cS:bJ} {h ab:ag} {v:V} (he:(vk P o.op).run P call (eg cS) h=.val v ab):(fw P o).run call cS h=.val v ab:=by
 obtain ⟨dst,op,type,pos,after,guard⟩:=o;cases op<;>simp only [vk] at he<;>try (cases he;done)
 all_goals simp only [fw]
 case move x=>simpa only [e1,G.run] using he
 case assign x=>simpa only [e1,G.run] using he
 case pick c a b=>
  simp only [e1,G.run] at he ⊢;generalize (rx c).aT (eg cS)=q at he ⊢;cases q<;>exact he
 case alloc t=>
  cases aK:bf P t with
  | none=>rw [aK] at he;cases he
  | some aS=>
    rw [aK] at he;simp only at he ⊢;cases bl:aS.zero with
    | none=>rw [bl] at he;cases he
    | some z=>rw [bl] at he;exact he
 case box t x=>simpa only [e1,G.run] using he
 case build t bo=>
  unfold L3 at he;unfold D9;cases aK:bf P t with
  | none=>rw [aK] at he;cases he
  | some aS=>
    rw [aK] at he;simp only at he ⊢;cases bl:aS.zero with
    | none=>rw [bl] at he;cases he
    | some z=>
      rw [bl] at he;simp only at he ⊢;cases hu:aS.bk<;>rw [hu] at he<;>simp only at he ⊢<;>try (cases he;done)
      . rename_i n e;cases eU:bf P e with
        | none=>rw [eU] at he;cases he
        | some bh=>
          rw [eU] at he;simp only at he ⊢;cases ai:qU (fun i=>some (i * bh.size,bh.size)) bo.toList with
          | none=>rw [ai] at he;cases he
          | some l=>
            rw [ai] at he;simp only [G.run] at he;rw [EL cS ai];cases aF:jE z.cells (kX (eg cS) l) with
            | none=>rw [aF] at he;cases he
            | some cs=>rw [aF] at he;exact he
      . rename_i b9;cases aA:EK P b9.toList with
        | false=>rw [aA] at he;cases he
        | true=>
          rw [aA] at he;simp only [ap8] at he ⊢;cases ai:qU (yB P b9) bo.toList with
          | none=>rw [ai] at he;cases he
          | some l=>
            rw [ai] at he;simp only [G.run] at he;rw [EL cS ai];cases aF:jE z.cells (kX (eg cS) l) with
            | none=>rw [aF] at he;cases he
            | some cs=>rw [aF] at he;exact he
 case buildSlice t n bo=>
  unfold L7 at he;unfold v';cases aK:bf P t with
  | none=>rw [aK] at he;cases he
  | some aS=>
    rw [aK] at he;simp only at he ⊢;cases hu:aS.bk<;>rw [hu] at he<;>simp only at he ⊢<;>try (cases he;done)
    rename_i e;cases eU:bf P e with
    | none=>rw [eU] at he;cases he
    | some bh=>
      rw [eU] at he;simp only at he ⊢;cases bl:bh.zero with
      | none=>rw [bl] at he;cases he
      | some z=>
        rw [bl] at he;simp only at he ⊢;cases ak:(Nat.ble (n * bh.size) 1000000&&Nat.beq z.cells.length bh.size) with
        | false=>rw [ak] at he;cases he
        | true=>
          rw [ak] at he;simp only [ap8] at he ⊢;cases ai:qU (fun i=>some (i * bh.size,bh.size)) bo.toList with
          | none=>rw [ai] at he;cases he
          | some l=>
            rw [ai] at he;simp only [G.run] at he;rw [EL cS ai];exact he
 case load t x=>
  unfold qP;cases aK:bf P t with
  | none=>rw [aK] at he;cases he
  | some aS=>
    rw [aK] at he;simp only at he ⊢;cases bp:aS.agg with
    | true=>rw [bp] at he;simpa only [ap8,e1,G.run] using he
    | false=>
      rw [bp] at he;simp only [aqe] at he ⊢;cases aO:Nat.beq aS.size 1 with
      | true=>rw [aO] at he;simpa only [ap8,e1,G.run] using he
      | false=>rw [aO] at he;cases he
 case store t x y=>
  unfold tG;cases aK:bf P t with
  | none=>rw [aK] at he;cases he
  | some aS=>rw [aK] at he;simpa only [e1,G.run] using he
 case nilCheck x=>simpa only [e1,G.run] using he
 case binOp op t x y t2=>simpa only [e1,G.run,alV] using he
 case unOp op t x=>simpa only [e1,G.run] using he
 case convert s d x=>simpa only [e1,G.run,alT] using he
 case makeFunc fn first eY=>
  cases fn<;>simp only at he<;>try (cases he;done)
  simp only;cases aF:(first.isEmpty&&!Nat.beq _ dy) with
  | true=>rw [aF] at he;simpa only [ap8,yz,G.run] using he
  | false=>
    rw [aF] at he;simp only [aqe] at he ⊢;cases j1:(eY.isEmpty&&!Nat.beq _ dy) with
    | true=>rw [j1] at he;simpa only [ap8,yz,G.run] using he
    | false=>rw [j1] at he;cases he
 case typeAssert x vv t ok=>
  cases aK:bf P t with
  | none=>rw [aK] at he;cases he
  | some aS=>
    rw [aK] at he;simp only at he ⊢;cases ak:Nat.beq (fe aS.bk) 5 with
    | true=>rw [ak] at he;cases he
    | false=>rw [ak] at he;simpa only [aqe,e1,G.run] using he
 case makeInterface t x=>
  cases aK:bf P t with
  | none=>rw [aK] at he;cases he
  | some aS=>
    rw [aK] at he;simp only at he ⊢;cases ak:Nat.beq (fe aS.bk) 5 with
    | true=>rw [ak] at he;cases he
    | false=>rw [ak] at he;simpa only [aqe,e1,G.run] using he
 case makeSlice t l c=>
  unfold xf;cases aK:bf P t with
  | none=>rw [aK] at he;cases he
  | some aS=>
    rw [aK] at he;simp only at he ⊢;cases hu:aS.bk<;>rw [hu] at he<;>simp only at he ⊢<;>try (cases he;done)
    rename_i e;cases eU:bf P e with
    | none=>rw [eU] at he;cases he
    | some bh=>
      rw [eU] at he;simp only at he ⊢;cases bl:bh.zero with
      | none=>rw [bl] at he;cases he
      | some z=>
        rw [bl] at he;simp only at he ⊢;cases ak:Nat.ble bh.bytes 4096 with
        | false=>rw [ak] at he;cases he
        | true=>rw [ak] at he;simpa only [ap8,e1,G.run] using he
 case slice t x bu aB m3=>
  unfold GY;cases aK:bf P t with
  | none=>rw [aK] at he;cases he
  | some aS=>
    rw [aK] at he;simp only at he ⊢;cases hu:aS.bk<;>rw [hu] at he<;>simp only at he ⊢<;>try (cases he;done)
    . simpa only [e1,Lu,G.run] using he
    . rename_i e;cases eU:bf P e with
      | none=>rw [eU] at he;cases he
      | some bh=>
        rw [eU] at he;simp only [e1,Lu,G.run] at he ⊢;generalize (rx x).aT (eg cS)=q at he ⊢;cases q<;>exact he
 case fieldAddr t x i=>
  unfold EH;cases aF:rG P t i with
  | none=>rw [aF] at he;cases he
  | some f=>
    rw [aF] at he;simp only at he ⊢;cases aK:bf P f.type with
    | none=>rw [aK] at he;cases he
    | some kY=>
      rw [aK] at he;simp only at he ⊢;cases ak:Nat.beq kY.size 0 with
      | true=>rw [ak] at he;cases he
      | false=>rw [ak] at he;simpa only [aqe,e1,G.run] using he
 case field t x i=>
  unfold EI;cases aF:rG P t i with
  | none=>rw [aF] at he;cases he
  | some f=>
    rw [aF] at he;simp only [qT] at he ⊢;cases aK:bf P f.type with
    | none=>rw [aK] at he;cases he
    | some kY=>
      rw [aK] at he;simp only at he ⊢;cases ak:kY.agg with
      | true=>
        rw [ak] at he;simp only [ap8,e1,G.run] at he ⊢;generalize (rx x).aT (eg cS)=q at he ⊢;cases q<;>exact he
      | false=>
        rw [ak] at he;simp only [aqe,e1,G.run] at he ⊢;generalize (rx x).aT (eg cS)=q at he ⊢;cases q<;>exact he
 case indexAddr t x i=>
  unfold FI;cases aK:bf P t with
  | none=>rw [aK] at he;cases he
  | some aS=>
    rw [aK] at he;simp only at he ⊢;cases hu:aS.bk<;>rw [hu] at he<;>simp only at he ⊢<;>try (cases he;done)
    all_goals
     rename_i e;cases eU:bf P e with
     | none=>rw [eU] at he;cases he
     | some bh=>rw [eU] at he;simpa only [e1,G.run] using he
 case index t x i=>
  cases aK:bf P t with
  | none=>rw [aK] at he;cases he
  | some aS=>
    rw [aK] at he;simp only at he;cases hu:aS.bk<;>rw [hu] at he<;>simp only [G.run] at he
    case string=>
     unfold td;rw [aK];simp only [hu];simpa only [e1] using he
    all_goals simpa only [e1] using he
 case range t x=>
  unfold GH;cases aK:bf P t with
  | none=>rw [aK] at he;cases he
  | some aS=>
    rw [aK] at he;simp only at he ⊢;cases hu:aS.bk<;>rw [hu] at he<;>simp only at he ⊢<;>try (cases he;done)
    all_goals simp only [e1,G.run] at he ⊢
    all_goals first
     | exact he
     | (generalize (rx x).aT (eg cS)=q at he ⊢
        cases q<;>exact he)
 case next it b=>
  cases b<;>simpa only [ap8,aqe,e1,G.run] using he
 case entry it=>simpa only [e1,G.run] using he
 case mapEntry t m k=>
  unfold F1;cases aK:bf P t with
  | none=>rw [aK] at he;cases he
  | some aS=>
    rw [aK] at he;simp only at he ⊢;cases hu:aS.bk<;>rw [hu] at he<;>simp only at he ⊢<;>try (cases he;done)
    rename_i bs e;cases eU:bf P e with
    | none=>rw [eU] at he;cases he
    | some bh=>
      rw [eU] at he;simp only at he ⊢;cases bl:bh.zero with
      | none=>rw [bl] at he;cases he
      | some z=>
        rw [bl] at he;simp only at he ⊢;cases ai:jM P bs with
        | true=>rw [ai] at he;simpa only [ap8,e1,G.run] using he
        | false=>
          rw [ai] at he;simp only [aqe] at he ⊢;cases aO:mI P bs with
          | true=>rw [aO] at he;simpa only [ap8,e1,G.run] using he
          | false=>rw [aO] at he;cases he
 case entryStore t m st x=>simpa only [e1,G.run] using he
 case lookup t x k ok=>
  unfold FZ;cases aK:bf P t with
  | none=>rw [aK] at he;cases he
  | some aS=>
    rw [aK] at he;simp only at he ⊢;cases hu:aS.bk<;>rw [hu] at he<;>simp only at he ⊢<;>try (cases he;done)
    rename_i bs e;cases aA:bf P bs with
    | none=>rw [aA] at he;cases he
    | some gP=>
      rw [aA] at he;simp only at he ⊢;cases eU:bf P e with
      | none=>rw [eU] at he;cases he
      | some bh=>
        rw [eU] at he;simp only at he ⊢;cases bl:bh.zero with
        | none=>rw [bl] at he;cases he
        | some z=>
          rw [bl] at he;simp only at he ⊢;cases h8:xb gP.bk with
          | none=>
            rw [h8] at he;simp only at he ⊢;cases aF:k_ gP.bk with
            | true=>rw [aF] at he;cases he
            | false=>
              rw [aF] at he;simp only [aqe] at he ⊢;cases ai:jM P bs with
              | true=>rw [ai] at he;simpa only [ap8,e1,G.run] using he
              | false=>
                rw [ai] at he;simp only [aqe] at he ⊢;cases aO:mI P bs with
                | true=>rw [aO] at he;simpa only [ap8,e1,G.run] using he
                | false=>rw [aO] at he;cases he
          | some cN=>
            rw [h8] at he;obtain ⟨al,au⟩:=KQ h8;simp only [al,au,ap8];simpa only [e1,G.run] using he
 case mapUpdate t m k x=>
  unfold pY;cases aK:bf P t with
  | none=>rw [aK] at he;cases he
  | some aS=>
    rw [aK] at he;simp only at he ⊢;cases hu:aS.bk<;>rw [hu] at he<;>simp only at he ⊢<;>try (cases he;done)
    rename_i bs e;cases aA:bf P bs with
    | none=>rw [aA] at he;cases he
    | some gP=>
      rw [aA] at he;simp only at he ⊢;cases h8:xb gP.bk with
      | none=>
        rw [h8] at he;simp only at he ⊢;cases aF:k_ gP.bk with
        | true=>rw [aF] at he;cases he
        | false=>
          rw [aF] at he;simp only [aqe] at he ⊢;cases ai:jM P bs with
          | true=>rw [ai] at he;simpa only [ap8,e1,G.run] using he
          | false=>
            rw [ai] at he;simp only [aqe] at he ⊢;cases aO:mI P bs with
            | true=>rw [aO] at he;simpa only [ap8,e1,G.run] using he
            | false=>rw [aO] at he;cases he
      | some cN=>
        rw [h8] at he;obtain ⟨al,au⟩:=KQ h8;simp only [al,au,ap8];simpa only [e1,G.run] using he
 case insert t m k x=>
  unfold pY;cases aK:bf P t with
  | none=>rw [aK] at he;cases he
  | some aS=>
    rw [aK] at he;simp only at he ⊢;cases hu:aS.bk<;>rw [hu] at he<;>simp only at he ⊢<;>try (cases he;done)
    rename_i bs e;cases aA:bf P bs with
    | none=>rw [aA] at he;cases he
    | some gP=>
      rw [aA] at he;simp only at he ⊢;cases h8:xb gP.bk with
      | none=>
        rw [h8] at he;simp only at he ⊢;cases aF:k_ gP.bk with
        | true=>rw [aF] at he;cases he
        | false=>
          rw [aF] at he;simp only [aqe] at he ⊢;cases ai:jM P bs with
          | true=>rw [ai] at he;simpa only [ap8,e1,G.run] using he
          | false=>
            rw [ai] at he;simp only [aqe] at he ⊢;cases aO:mI P bs with
            | true=>rw [aO] at he;simpa only [ap8,e1,G.run] using he
            | false=>rw [aO] at he;cases he
      | some cN=>
        rw [h8] at he;obtain ⟨al,au⟩:=KQ h8;simp only [al,au,ap8];simpa only [e1,G.run] using he
 case makeMap t x=>
  unfold zA;cases aK:bf P t with
  | none=>rw [aK] at he;cases he
  | some aS=>
    rw [aK] at he;simp only at he ⊢;cases ak:Nat.beq (fe aS.bk) 3 with
    | false=>rw [ak] at he;cases he
    | true=>rw [ak] at he;simpa only [ap8,Lu,G.run] using he
 case extract x i=>
  simp only [e1,G.run] at he ⊢;generalize (rx x).aT (eg cS)=q at he ⊢;cases q<;>exact he
 case call c=>exact alS he
end
end
end Go.Proofs.YtgmhjhgoamjeeaaGreatDoor.a7
