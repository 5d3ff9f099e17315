/- The abstract machine and its walks (a verified interpreter of the model's code: plain definitions and lemmas, no condition). Printed by a program from longer texts: names made short. -/
import Derived.Test.YtgmhjhgoamjeeaaGreatDoorM2
import Derived.Scope
import Derived.RangeFuncRecord
import Derived.Carry
import Derived.OpenShut
import Derived.ChangeSame
import Derived.Lib.Bytealg
import Derived.Lib.IndexMore
import Derived.Handed
import Derived.HandedShaped
set_option linter.unusedSectionVars false
set_option linter.unusedSimpArgs false
set_option linter.unusedVariables false
set_option maxHeartbeats 64000000
noncomputable section
namespace Go.Proofs.YtgmhjhgoamjeeaaGreatDoor.aZ
section
open Go Go.RowKit
variable [Lay]
theorem DJ {α:Type} (p q:α->Bool):∀(l:List α),(∀x ∈ l,q x=true->p x=true)->(∃x ∈ l,p x=true/\q x=false)->l.countP q<l.countP p
 | [],_,h=>by obtain ⟨x,ao,_⟩:=h;simp at ao
 | a::l,U,ab=>by
   have hle:l.countP q<=l.countP p:=List.countP_mono_left fun x ao=>U x (by simp [ao]);obtain ⟨x,ao,ai,aq⟩:=ab;simp only [apI] at ao;rcases ao with rfl | ao
   . rw [List.countP_cons,List.countP_cons,ai,aq];simp;omega
   . have bh:=DJ p q l (fun y a8=>U y (by simp [a8])) ⟨x,ao,ai,aq⟩;have bw:=U a (by simp);rw [List.countP_cons,List.countP_cons];cases aev:q a with
     | true=>rw [bw aev];simp;omega
     | false=>simp;omega
theorem xP (e:Edge):Region.binds .any e=vL e:=by unfold Region.binds vL;cases e.ground<;>rfl
section
variable {P:Program}
theorem uW {order:List Nat}:∀{bn:List Nat} {k j p:Nat},Ch order k bn=true->bn[j]? =some p->order[p]? =some (k+j)
 | [],_,j,p,_,h=>by simp at h
 | q::bn,k,j,p,ai,h=>by
   simp only [Ch,apn] at ai;cases j with
   | zero=>
     simp only [apH,apq] at h;subst h;have U:=ai.1;cases aq:order[q]? with
     | none=>rw [aq] at U;cases U
     | some i=>rw [aq] at U;rw [apT] at U;rw [U];rfl
   | succ j=>
     have:=uW ai.2 (show bn[j]? =some p by simpa using h);rw [this];congr 1;omega
theorem nr {ops:Array Oper}:∀{order:List Nat} {p i:Nat} {o:Oper},order[p]? =some i->ops[i]? =some o->(hs ops order)[p]? =some o
 | [],p,i,o,h,_=>by simp at h
 | x::xs,p,i,o,h,aT=>by
   cases p with
   | zero=>
     simp only [apH,apq] at h;subst h;simp [hs,aT]
   | succ p=>simpa [hs] using nr (show xs[p]? =some i by simpa using h) aT
theorem qs {ops:Array Oper}:∀{order:List Nat},(hs ops order).length=order.length
 | []=>rfl
 | x::xs=>by simp [hs,qs (order:=xs)]
structure Cert (P:Program) (aw:Nat) (ops:Array Oper) (calls:Nat->dR) (es:List e0) (a1:bI) (aY:ae) (c0:bI) (aB:ae) (eC:List Nat) (order aF:List Nat) (N M:Nat) (lit:Bool):Prop where
 len:es.length=N
 B4:N<=ops.size
 TL:N<=M
 iu:∀k,k<ops.size->posOf aF k<ops.size/\order[posOf aF k]? =some k
 ly:∀p,p<ops.size->∃i,i<ops.size/\posOf aF i=p
 aY:ch es aB 0=aY
 a1:ey es c0 0=a1
 step:∀i o,ops[i]? =some o->posOf aF i<N->∃e,es[posOf aF i]? =some e/\(cB P aw ops o).run (calls i) e.r e.h=.val e.v (ch es aB (posOf aF i+1))/\ey es c0 (posOf aF i+1)=(fI o.dst).run e.r e.v
 m':∀i o,ops[i]? =some o->∃cN,(eP [] ops.toList)[i]? =some cN/\mH i o=true/\(posOf aF i<M->
  ∀k ok,ops[k]? =some ok->posOf aF k<M->∃mk,(eP [] ops.toList)[k]? =some mk/\ph i cN (b4 ops o) o.dst k mk ok (Nat.blt (posOf aF k) (posOf aF i))=true/\(e4 P o.op=true->ej P ok=true->posOf aF k<posOf aF i->fR cN k=true\/(lit=true/\ln o=true/\ln ok=true)))
 ends:N ∈ eC
 mem:∀j o,ops[j]? =some o->ej P o=true->posOf aF j ∈ eC
 VL:∀s ∈ eC,(s=ops.size\/(s=N/\M=N))\/∃k o,ops[k]? =some o/\ej P o=true/\s=posOf aF k
 ask:∀j o,ops[j]? =some o->looks o.op=true->e4 P o.op=false->posOf aF j<N->∃e,es[posOf aF j]? =some e/\∀s ∈ eC,
  s6 P (eP [] ops.toList) ops.toList aF j (((eP [] ops.toList)[j]?).getD 0) s=true->∃c aa,(gJ P c/\gV P c)/\(cB P aw ops o).run c e.r (ch es aB s)=.val e.v aa
 tail:M<ops.size->M=N/\∀k ok mk,ops[k]? =some ok->N<=posOf aF k->(eP [] ops.toList)[k]? =some mk->∀j,j<ops.size->posOf aF j<N->fR mk j=true
 stop:N<ops.size->ops.size<=M->∃i0 h4 m0,ops[i0]? =some h4/\posOf aF i0=N/\l0 h4.op=true/\(eP [] ops.toList)[i0]? =some m0/\
  (∀k ok mk,ops[k]? =some ok->N<posOf aF k->(eP [] ops.toList)[k]? =some mk->fR mk i0=true)/\
  (∀k ok,ops[k]? =some ok->gD ok=true->posOf aF k<N->fR m0 k=true)/\∃v aa,(cB P aw ops h4).run (calls i0) c0 aB=.cI v aa
theorem Tx {o:Oper} (h:l0 o.op=true):e4 P o.op=true/\gD o=false:=by
 obtain ⟨dst,op,type,pos,after,guard⟩:=o;cases op<;>simp only [l0] at h<;>try (cases h;done)
 . rename_i c;obtain ⟨callee,args,types⟩:=c;cases callee<;>simp only at h<;>try (cases h;done)
   exact ⟨rfl,rfl⟩
 . exact ⟨rfl,rfl⟩
variable {aw:Nat} {ops:Array Oper} {call:dR} {calls:Nat->dR} {es:List e0} {a1:bI} {aY:ae} {c0:bI} {aB:ae} {eC:List Nat} {order aF:List Nat} {N M:Nat} {lit:Bool}
theorem Cert.w4 (C:Cert P aw ops calls es a1 aY c0 aB eC order aF N M lit) {k bp:Nat} (U:k<ops.size) (ab:bp<ops.size) (he:posOf aF k=posOf aF bp):k=bp:=by have a:=(C.iu k U).2;have b:=(C.iu bp ab).2;rw [he,b] at a;cases a;rfl
theorem P2 {ops:Array Oper} {aF:List Nat} (aB:vS P ops aF=true):∀i o,ops[i]? =some o->∃cN,(eP [] ops.toList)[i]? =some cN/\mH i o=true/\
 ∀k ok,ops[k]? =some ok->∃mk,(eP [] ops.toList)[k]? =some mk/\ph i cN (b4 ops o) o.dst k mk ok (Nat.blt (posOf aF k) (posOf aF i))=true/\(e4 P o.op=true->ej P ok=true->posOf aF k<posOf aF i->fR cN k=true):=by
 intro i o ax;unfold vS at aB;obtain ⟨cN,U,ab⟩:=qJ aB i o (by simpa using ax);simp only [apX,apn] at ab;refine ⟨cN,U,ab.1,fun k ok aA=>?_⟩;obtain ⟨mk,cm,cz⟩:=qJ ab.2 k ok (by simpa using aA);simp only [apX,apn] at cz;refine ⟨mk,cm,cz.1,fun av aK aL=>?_⟩;have fH:=cz.2;rw [av,aK,aqm,show Nat.blt (posOf aF k) (posOf aF i)=true from by rw [apQ];exact aL] at fH;exact fH
theorem Cert.Ly (C:Cert P aw ops calls es a1 aY c0 aB eC order aF N M lit):∀p,p<=N->∀t,t<=top->
 (∃k o e,posOf aF k<p/\ops[k]? =some o/\o.dst=some t/\es[posOf aF k]? =some e/\T.get .bad (aC t) (ey es c0 p)=e.v)\/
 ((∀k o,posOf aF k<p->ops[k]? =some o->o.dst≠some t)/\T.get .bad (aC t) (ey es c0 p)=T.get .bad (aC t) a1)
 | 0,_,t,aE=>.inr ⟨fun k o h=>by omega,by rw [C.a1]⟩
 | p+1,ax,t,aE=>by
   obtain ⟨i,aL,jT⟩:=C.ly p (by have:=C.B4;omega);have cx:ops[i]? =some ops[i]:=apK aL;obtain ⟨e,U,ab,aI⟩:=C.step i ops[i] cx (by omega);rw [jT] at U ab aI;have JY:ey es c0 p=e.r:=by simp [ey,U]
   have dt:=QV (r:=e.r) (v:=e.v) (kB ab).1 aE;rw [aI,dt];by_cases aH:ops[i].dst=some t
   . rw [apB aH];exact .inl ⟨i,_,e,by omega,cx,aH,by rw [jT];exact U,rfl⟩
   . rw [apu aH,<-JY];rcases Cert.Ly C p (by omega) t aE with ⟨k,o,c6,aj,an,aJ,bE,cO⟩ | ⟨aj,an⟩
     . exact .inl ⟨k,o,c6,by omega,an,aJ,bE,cO⟩
     . refine .inr ⟨fun k o aA aT=>?_,an⟩;by_cases gv:k=i
       . subst gv;rw [cx] at aT;cases aT;exact aH
       . refine aj k o ?_ aT;have ke:=(apr.1 aT).1;have:posOf aF k≠p:=fun e=>gv (C.w4 ke aL (by rw [e,jT]));omega
theorem Cert.Ih (C:Cert P aw ops calls es a1 aY c0 aB eC order aF N M lit):∀p,p<=N->T.get .bad eU (ey es c0 p)=T.get .bad eU a1
 | 0,_=>by rw [C.a1]
 | p+1,ax=>by
   obtain ⟨i,aL,jT⟩:=C.ly p (by have:=C.B4;omega);have cx:ops[i]? =some ops[i]:=apK aL;obtain ⟨e,U,ab,aI⟩:=C.step i ops[i] cx (by omega);rw [jT] at U ab aI;have JY:ey es c0 p=e.r:=by simp [ey,U]
   have aH:=(kB ab).1;rw [aI,<-Cert.Ih C p (by omega),JY];cases adq:ops[i].dst with
   | none=>rfl
   | some d=>
     rw [adq] at aH;simp only [eV,apn,apF] at aH;simp only [fI];rw [T.ie,apu (w1 aH.2)]
def nameAt (es:List e0) (aB:ae) (aF:List Nat) (k:Nat):aO:=aC (ch es aB (posOf aF k)).next
def Av (es:List e0) (aB:ae) (aF:List Nat) (k:Nat):b':=(ch es aB (posOf aF k+1)).get (nameAt es aB aF k)
def Made (es:List e0) (aB:ae) (aF:List Nat) (k:Nat):Prop:=(ch es aB (posOf aF k+1)).next≠(ch es aB (posOf aF k)).next
def j3 (ops:Array Oper) (es:List e0) (aB:ae) (aF:List Nat) (listed:Array Bool) (s k:Nat):Prop:=
 ∃o,ops[k]? =some o/\(gD o=true/\Made es aB aF k)/\¬listed.getD k false=true/\posOf aF k<s
structure Holds (az F:Fr) (es:List e0) (aB:ae) (aF:List Nat) (D:Nat->Prop):Prop where
 w:F.w=az.w
 bG:∀b,(∀k,D k->nameAt es aB aF k≠b)->F.ht b=az.ht b
 new:∀k,D k->F.ht (nameAt es aB aF k)=some (Av es aB aF k)/\az.ht (nameAt es aB aF k)=none
 inj:∀k bp,D k->D bp->nameAt es aB aF k=nameAt es aB aF bp->k=bp
theorem Holds.congr {az F:Fr} {D Mz:Nat->Prop} (H:Holds az F es aB aF D) (h:∀k,Mz k↔D k):Holds az F es aB aF Mz:=
 ⟨H.w,fun b ah=>H.bG b fun k aA=>ah k ((h k).2 aA),fun k aA=>H.new k ((h k).1 aA),fun k bp aA fU=>H.inj k bp ((h k).1 aA) ((h bp).1 fU)⟩
theorem Holds.none {az F:Fr} {D:Nat->Prop} (H:Holds az F es aB aF D) (h:∀k,¬D k):F=az:=by have:F.ht=az.ht:=funext fun b=>H.bG b fun k aA=>absurd aA (h k);cases F;cases az;have hw:=H.w;simp only at this hw;rw [this,hw]
theorem Cert.advance (C:Cert P aw ops calls es a1 aY c0 aB eC order aF N M lit) {az:Fr} {listed:Array Bool} {E:Env} {w:World}:∀(d q:Nat),q+d=N->(∀k o,ops[k]? =some o->gD o=true->q<=posOf aF k->¬listed.getD k false=true)->
 ∀F,Holds az F es aB aF (j3 ops es aB aF listed q)->ba F E (ch es aB q) w->
 ∃s dA,s ∈ eC/\q<=s/\s<=N/\(∀k o,ops[k]? =some o->ej P o=true->q<=posOf aF k->s<=posOf aF k)/\Holds az dA es aB aF (j3 ops es aB aF listed s)/\ba dA E (ch es aB s) w
 | 0,q,aq,_,F,H,S=>by
   have:q=N:=by omega
   subst this;exact ⟨q,F,C.ends,aps _,aps _,fun k o _ _ h=>h,H,S⟩
 | d+1,q,aq,p9,F,H,S=>by
   obtain ⟨i,aL,jT⟩:=C.ly q (by have:=C.B4;omega);have cx:ops[i]? =some ops[i]:=apK aL;cases lk:ej P ops[i] with
   | true=>exact ⟨q,F,by rw [<-jT];exact C.mem i _ cx lk,aps _,by omega,fun k o _ _ h=>h,H,S⟩
   | false=>
     obtain ⟨e,U,ab,aI⟩:=C.step i ops[i] cx (by omega);rw [jT] at U ab;have uq:ch es aB q=e.h:=by simp [ch,U]
     have only:∀k o,ops[k]? =some o->posOf aF k=q->k=i:=fun k o aA ai=>C.w4 (apr.1 aA).1 aL (by rw [ai,jT]);have fin:∀dA,Holds az dA es aB aF (j3 ops es aB aF listed (q+1))->ba dA E (ch es aB (q+1)) w->
      ∃s dA,s ∈ eC/\q<=s/\s<=N/\(∀k o,ops[k]? =some o->ej P o=true->q<=posOf aF k->s<=posOf aF k)/\Holds az dA es aB aF (j3 ops es aB aF listed s)/\ba dA E (ch es aB s) w:=by
      intro dA gm Xa;obtain ⟨s,WA,g1,g2,g3,g4,g5,g6⟩:=Cert.advance C d (q+1) (by omega) (fun k o U ab aI=>p9 k o U ab (by omega)) dA gm Xa;refine ⟨s,WA,g1,by omega,g3,fun k o aA au ai=>g4 k o aA au ?_,g5,g6⟩;by_cases ER:posOf aF k=q
      . have:=only k o aA ER;subst this;rw [cx] at aA;cases aA;rw [lk] at au;cases au
      . omega
     have pass:ch es aB (q+1)=e.h->(gD ops[i]=true->¬Made es aB aF i)->∃s dA,s ∈ eC/\q<=s/\s<=N/\(∀k o,ops[k]? =some o->ej P o=true->q<=posOf aF k->s<=posOf aF k)/\Holds az dA es aB aF (j3 ops es aB aF listed s)/\ba dA E (ch es aB s) w:=by
      intro yB iQ;rw [<-uq] at yB;refine fin F (H.congr fun k=>⟨?_,?_⟩) (by rw [yB];exact S)
      . rintro ⟨o,aj,an,aJ,bE⟩;refine ⟨o,aj,an,aJ,?_⟩;have:posOf aF k≠q:=fun e=>by
         have:=only k o aj e;subst this;rw [cx] at aj;cases aj;exact iQ an.1 an.2
        omega
      . rintro ⟨o,aj,an,aJ,bE⟩;exact ⟨o,aj,an,aJ,by omega⟩
     cases bw:gD ops[i] with
     | true=>
      rcases PZ bw ab with ⟨cY,cm,cz⟩ | ⟨cm,_⟩
      ·
       have aW:=S.hold cY;have aV:nameAt es aB aF i=aC (ch es aB q).next:=by unfold nameAt;rw [jT]
       have ah:Av es aB aF i=cY:=by unfold Av;rw [aV,jT,cm,uq,ae.iz,apB rfl]
       rw [uq,<-cm] at aW;have ad_:Made es aB aF i:=by unfold Made;rw [jT,cm,uq];exact Nat.succ_ne_self _
       have ru:¬listed.getD i false=true:=p9 i _ cx bw (by omega);have H3:∀k,j3 ops es aB aF listed (q+1) k->k=i\/j3 ops es aB aF listed q k:=by
        rintro k ⟨o,aj,an,aJ,bE⟩;by_cases ER:posOf aF k=q
        . exact .inl (only k o aj ER)
        . exact .inr ⟨o,aj,an,aJ,by omega⟩
       have fresh:∀b hp,F.ht b=some hp->b≠nameAt es aB aF i:=by intro b hp ri heq;obtain ⟨_,_,j,s0,s3⟩:=S.oh b hp ri;rw [heq,aV] at s3;rw [uq] at s0 s3;have:=h7 s3;omega
       have Sr:∀b,b≠nameAt es aB aF i->(F.hold (aC e.h.next) cY).ht b=F.ht b:=by intro b Rj;rw [aV,uq] at Rj;simp only [Fr.hold,apu Rj]
       have X6:(F.hold (aC e.h.next) cY).ht (nameAt es aB aF i)=some cY:=by rw [aV,uq];simp only [Fr.hold,ap0]
       have ne:∀k,j3 ops es aB aF listed q k->nameAt es aB aF k≠nameAt es aB aF i:=fun k aA=>fresh _ _ (H.new k aA).1;refine fin (F.hold (aC e.h.next) cY) ⟨H.w,fun b ri=>?_,fun k aA=>?_,fun k bp aA fU he=>?_⟩ aW
       . have wg:b≠nameAt es aB aF i:=fun e=>ri i ⟨_,cx,⟨bw,ad_⟩,ru,by omega⟩ e.symm;rw [Sr b wg];exact H.bG b fun k aA=>ri k (by obtain ⟨o,aj,an,aJ,bE⟩:=aA;exact ⟨o,aj,an,aJ,by omega⟩)
       . rcases H3 k aA with rfl | aA
         . refine ⟨by rw [X6,ah],?_⟩;cases ai:az.ht (nameAt es aB aF k) with
           | none=>rfl
           | some hp=>
             exfalso;have:=H.bG (nameAt es aB aF k) fun bp fU=>ne bp fU;rw [ai] at this;exact fresh _ _ this rfl
         . rw [Sr _ (ne k aA)];exact H.new k aA
       . rcases H3 k aA with rfl | aA<;>rcases H3 bp fU with rfl | fU
         . rfl
         . exact absurd he.symm (ne bp fU)
         . exact absurd he (ne k aA)
         . exact H.inj k bp aA fU he
      . refine pass cm fun _ hm=>hm ?_;rw [jT,cm,uq]
     | false=>
       have cT:e4 P ops[i].op=false:=by unfold ej at lk;rw [bw] at lk;simpa using lk
       exact pass (vR cT ab).1 fun h=>by rw [bw] at h;cases h
structure qL (P:Program) (az:Fr) (aw:Nat) (ops:Array Oper) (es:List e0) (a1:bI) (aB:ae) (eC aF:List Nat) (gz:Env) (N:Nat) (D:List Deferred) (listed:Array Bool) (a:Act) (w:World):Prop where
 s4:listed.size=ops.size
 size:a.tmps.size=aw
 defers:a.defers=D
 tV:∀k,listed.getD k false=true->posOf aF k<N
 down:qN ops fun k=>listed.getD k false=true
 main:∃E s F,gz.le E/\s ∈ eC/\s<=N/\(∀k o,ops[k]? =some o->ej P o=true->(listed.getD k false=true↔posOf aF k<s))/\
  (∀k o,ops[k]? =some o->gD o=true->listed.getD k false=true->posOf aF k<s)/\Holds az F es aB aF (j3 ops es aB aF listed s)/\ba F E (ch es aB s) w/\
  ∀t,t<=top->(∃k o e,listed.getD k false=true/\ops[k]? =some o/\o.dst=some t/\es[posOf aF k]? =some e/\Rel E e.v (a.tmps.getD t undef))\/
   ((∀k o,listed.getD k false=true->ops[k]? =some o->o.dst≠some t)/\Rel E (T.get .bad (aC t) a1) (a.tmps.getD t undef))
theorem ud {l:Array Bool} {i:Nat}:l.getD i false=true↔l[i]? =some true:=by
 rw [apO];cases l[i]? with
 | none=>simp
 | some b=>cases b<;>simp
theorem fN {l:Array Bool} {i k:Nat} (ax:i<l.size):(l.setIfInBounds i true).getD k false=true↔(k=i\/l.getD k false=true):=by
 rw [ud,ud,apJ];by_cases h:i=k
 . subst h;simp [ax]
 . have:¬k=i:=fun e=>h e.symm;simp [h,this]
theorem D3 {r:bI} {t:Nat} (aE:t<=top):∀{l:List Oper},T.get .bad (aC t) (oS r l)=.bad\/(T.get .bad (aC t) (oS r l)=T.get .bad (aC t) r/\∀o ∈ l,o.dst≠some t)
 | []=>.inr ⟨rfl,fun o aT=>by simp at aT⟩
 | o::os=>by
   simp only [oS];cases aH:o.dst with
   | none=>
     simp only;rcases D3 (r:=r) aE (l:=os) with h | ⟨U,ab⟩
     . exact .inl h
     . exact .inr ⟨U,fun b_ hl=>by
        rcases apI.1 hl with rfl | hl
        . rw [aH];simp
        . exact ab b_ hl⟩
   | some d=>
     simp only;cases ah:Nat.ble d top with
     | true=>
       simp only [apt];rw [T.ie];by_cases wk:d=t
       . subst wk;rw [apB rfl];exact .inl rfl
       . rw [apu (fun e=>wk (h7 e))];rcases D3 (r:=r) aE (l:=os) with h | ⟨U,ab⟩
         . exact .inl h
         . exact .inr ⟨U,fun b_ hl=>by
            rcases apI.1 hl with rfl | hl
            . rw [aH];simpa using wk
            . exact ab b_ hl⟩
     | false=>
       simp only [apA];have wk:d≠t:=fun e=>by subst e;rw [<-apF] at aE;rw [aE] at ah;cases ah
       rcases D3 (r:=r) aE (l:=os) with h | ⟨U,ab⟩
       . exact .inl h
       . exact .inr ⟨U,fun b_ hl=>by
          rcases apI.1 hl with rfl | hl
          . rw [aH];simpa using wk
          . exact ab b_ hl⟩
theorem D2 {r:bI}:∀{l:List Oper},T.get .bad eU (oS r l)=T.get .bad eU r
 | []=>rfl
 | o::os=>by
   simp only [oS];cases aH:o.dst with
   | none=>exact D2
   | some d=>
     simp only;cases ah:Nat.ble d top with
     | true=>
       simp only [apt];rw [T.ie,apu (w1 (ap4 ah))];exact D2
     | false=>exact D2
theorem P5 {rd:Option Nat} {D:List Deferred} {az:Fr} (bK:ep P) (cf:∀i,gJ P (calls i)) (dH:∀i,gV P (calls i)) (C:Cert P aw ops calls es a1 aY c0 aB eC order aF N M lit) {gz:Env} {listed:Array Bool} {a:Act} {w:World} (I:qL P az aw ops es a1 aB eC aF gz N D listed a w)
 {i:Nat} (ax:i ∈ Region.ready .any ops listed) (adP:posOf aF i<M) (wx:lit=true->∀o k ok,ops[i]? =some o->ln o=true->ops[k]? =some ok->ln ok=true->posOf aF k<posOf aF i->listed.getD k false=true) {Q:Exit->Act->World->Prop} {K:Act->World->Prop} (dL:∀bk w',qL P az aw ops es a1 aB eC aF gz N D (listed.setIfInBounds i true) bk w'->K bk w')
 (cw:∀ay bk w' x v aa,gz.le ay->N<ops.size->ops.size<=M->(∃i0 h4,ops[i0]? =some h4/\posOf aF i0=N/\(cB P aw ops h4).run (calls i0) c0 aB=.cI v aa)->RegRel0 ay aw (oS a1 ops.toList) bk->bk.defers=D->Rel ay v x->ba az ay aa w'->Q (.panic (qu x)) bk w'):wpOpIn (cc rd) 0 P ops Q i K a w:=by
 rw [mem_ready] at ax;obtain ⟨E,s,F,iL,aW,ET,mj,dx,kc,rz,wI⟩:=I.main;obtain ⟨p9,o,cx,wm⟩:=ax;have eb:i<ops.size:=(apr.1 cx).1;have uv:¬listed.getD i false=true:=by rw [ud];intro h;rw [apO,h] at p9;simp at p9
 have RN:=BY I.down ops.toList [] (fun j=>by simp) (fun k m j aA=>by simp at aA);have yf:qN ops fun k=>listed.getD k false=true\/k=i:=by
  intro k ok e aA bt he ah;rcases aA with aA | rfl
  . exact .inl (I.down k ok e aA bt he ah)
  . rw [cx] at bt;cases bt;exact .inl (wm e (aqY.1 he) (by rw [xP];exact ah))
 have ad9:=BY yf ops.toList [] (fun j=>by simp) (fun k m j aA=>by simp at aA);obtain ⟨cN,mm,iD,yv⟩:=C.m' i o cx;have yv:=yv adP;have IX:=C.TL;have A0:∀k,k≠i->fR cN k=true->listed.getD k false=true:=by
  intro k aA ah;rcases ad9 i cN k mm ah (.inr rfl) with h | h
  . exact h
  . exact absurd h aA
 have dj:=(C.iu i eb).1;have aeo:posOf aF i<=N:=by
  rcases aqJ N (posOf aF i) with adL | hle
  . exfalso;have Es:ops.size<=M:=by
     rcases aqJ M ops.size with h | h
     . have:=(C.tail h).1;omega
     . exact h
    obtain ⟨i0,h4,m0,bU,z2,z3,z4,z5,_⟩:=C.stop (by omega) Es;have ah:=z5 i o cN cx adL mm;have U:=A0 i0 (fun e=>by subst e;omega) ah;have:=I.tV i0 U;omega
  . exact hle
 have uniq:∀(k bp:Nat) (ok kW:Oper) (t:Nat),ops[k]? =some ok->ops[bp]? =some kW->posOf aF k<M->posOf aF bp<M->ok.dst=some t->kW.dst=some t->k=bp:=by
  intro k bp ok kW t U ab bR b7 aI bq;obtain ⟨mk,_,_,ai⟩:=C.m' k ok U;obtain ⟨mk',_,ih,_⟩:=ai bR bp kW ab b7;unfold ph at ih;rw [hB] at ih;by_cases kd:k=bp
  . exact kd
  . rw [apu kd,bq,aI] at ih;simp at ih
 have UU:iW (b4 ops o)=true->∀t ∈ b4 ops o,Rel E (T.get .bad (aC t) (ey es c0 (posOf aF i))) (a.tmps.getD t undef):=by
  intro qe t aE;have yE:t<=top:=by have:=apP.1 qe t aE;exact ap4 this
  have Ue:∀(k:Nat) (ok:Oper),k≠i->posOf aF k<M->ops[k]? =some ok->ok.dst=some t->∃mk,(eP [] ops.toList)[k]? =some mk/\(posOf aF k<posOf aF i->fR cN k=true)/\(¬posOf aF k<posOf aF i->fR mk i=true):=by
   intro k ok aA Jr bt aH;obtain ⟨mk,aj,an,_⟩:=yv k ok bt Jr;refine ⟨mk,aj,?_⟩;unfold ph at an;rw [hB,apu (fun e=>aA e.symm),aH] at an;simp only [apn] at an;have aJ:=an.1;rw [show (b4 ops o).contains t=true from by simpa using aE] at aJ;simp only [apt] at aJ;refine ⟨fun aL=>?_,fun jQ=>?_⟩
   . rw [show Nat.blt (posOf aF k) (posOf aF i)=true from by rw [apQ];exact aL] at aJ;exact aJ
   . rw [show Nat.blt (posOf aF k) (posOf aF i)=false from by rw [<-ap1,apQ];exact jQ] at aJ;exact aJ
  rcases C.Ly (posOf aF i) aeo t yE with ⟨k,ok,DW,aj,an,aJ,bE,cO⟩ | ⟨aj,an⟩
  . obtain ⟨mk,_,c8,_⟩:=Ue k ok (fun e=>by subst e;omega) (by omega) an aJ;have sM:=A0 k (fun e=>by subst e;omega) (c8 aj);rcases wI t yE with ⟨bp,kW,Iq,cg,ck,ek,ir,nt⟩ | ⟨cg,_⟩
    . have:=uniq k bp ok kW t an ck (by omega) (by have:=I.tV bp cg;omega) aJ ek;subst this;rw [bE] at ir;cases ir;rw [cO];exact nt
    . exact absurd aJ (cg k ok sM an)
  . rcases wI t yE with ⟨bp,kW,Iq,cg,ck,ek,ir,nt⟩ | ⟨_,ck⟩
    . have gv:bp≠i:=fun e=>uv (e ▸ cg);obtain ⟨mk,m1,_,cy⟩:=Ue bp kW gv (by have:=I.tV bp cg;omega) ck ek;by_cases aL:posOf aF bp<posOf aF i
      . exact absurd ek (aj bp kW aL ck)
      . exact absurd (RN bp mk i m1 (cy aL) cg) uv
    . rw [an];exact ck
 have level:e4 P o.op=true->s<=posOf aF i->s=posOf aF i/\gD o=false:=by
  intro lN hle;rcases C.VL s aW with (h | ⟨h,Er⟩) | ⟨k,ok,cm,cz,fH⟩
  . omega
  . omega
  . have RT:¬listed.getD k false=true:=fun h=>by have:=(mj k ok cm cz).1 h;omega
    have ke:=(apr.1 cm).1;by_cases gv:k=i
    . subst gv;rw [cx] at cm;cases cm;refine ⟨fH,?_⟩;unfold ej at cz;simpa [lN] using cz
    . have aL:posOf aF k<posOf aF i:=by
       have:posOf aF k≠posOf aF i:=fun e=>gv (C.w4 ke eb e);omega
      obtain ⟨mk,_,_,aJ⟩:=yv k ok cm (by omega);rcases aJ lN cz aL with h | ⟨g1,g2,g3⟩
      . exact absurd (A0 k gv h) RT
      . exact absurd (wx g1 o k ok cx g2 cm g3 aL) RT
 rcases aqJ (posOf aF i) N with JD | aom
 case inr=>
  have iS:posOf aF i=N:=by omega
  have Es:ops.size<=M:=by
   rcases aqJ M ops.size with h | h
   . have:=(C.tail h).1;omega
   . exact h
  obtain ⟨i0,h4,m0,bU,z2,z3,z4,z5,kt,v,aa,Mq⟩:=C.stop (by omega) Es;have adR:i0=i:=C.w4 (apr.1 bU).1 eb (by rw [z2,iS]);subst adR;rw [cx] at bU;cases bU;rw [mm] at z4;cases z4;obtain ⟨lN,aec⟩:=Tx z3;have yj:ej P o=true:=by unfold ej;rw [lN,aec];rfl
  have J6:s<=posOf aF i0:=by
   rcases aqJ (posOf aF i0) s with h | h
   . exact absurd ((mj i0 o cx yj).2 h) uv
   . exact h
  have qc:=(level lN J6).1;have eX:F=az:=kc.none fun k aA=>by
   obtain ⟨ok,aj,an,aJ,bE⟩:=aA;have gv:k≠i0:=fun e=>by subst e;omega
   exact aJ (A0 k gv (kt k ok aj an.1 (by omega)))
  subst eX;have dC:es[N]? =none:=apS (by rw [C.len];exact aps _);have kO:=UU (PX Mq).2;rw [iS] at kO;simp only [ey,dC] at kO;rw [qc,iS] at rz;simp only [ch,dC] at rz;refine aa1 bK (cf i0) (dH i0) cx Mq z3 I.size kO rz fun ay x w' aj an aJ=>cw ay a w' x v aa (iL.trans aj) (by omega) Es ⟨i0,o,cx,iS,Mq⟩ ⟨I.size,fun t aE=>?_⟩ I.defers an aJ;rcases D3 (r:=a1) aE (l:=ops.toList) with h | ⟨U,ab⟩
  . rw [h];simp [Rel]
  . rw [U];rcases wI t aE with ⟨k,ok,DW,cg,ck,ek,ir,nt⟩ | ⟨cg,ck⟩
    . exact absurd ek (ab ok (by rw [<-aq1] at ck;exact apR ck))
    . exact Rel.mono aj _ _ ck
 obtain ⟨e,rk,cS,aoy⟩:=C.step i o cx JD;have hi:=kB cS;have eM:ey es c0 (posOf aF i)=e.r:=by simp [ey,rk]
 have hH:ch es aB (posOf aF i)=e.h:=by simp [ch,rk]
 have reads:=UU hi.2;rw [eM] at reads;have gi:i<listed.size:=by rw [I.s4];exact eb
 have after:∀(gy:Nat) (dA:Fr) (ay:Env) (x:Value) (w':World),gy ∈ eC->gy<=N->(∀k ok,ops[k]? =some ok->ej P ok=true->((k=i\/listed.getD k false=true)↔posOf aF k<gy))->
  (∀k ok,ops[k]? =some ok->gD ok=true->(k=i\/listed.getD k false=true)->posOf aF k<gy)->
  Holds az dA es aB aF (j3 ops es aB aF (listed.setIfInBounds i true) gy)->E.le ay->Rel ay e.v x->ba dA ay (ch es aB gy) w'->
  qL P az aw ops es a1 aB eC aF gz N D (listed.setIfInBounds i true) (a.put o.dst x) w':=by
  intro gy dA ay x w' jA aeM fx ac6 adM hle ao aeK
  refine ⟨by simp [I.s4],by cases h:o.dst<;>simp [Act.put,I.size],by cases h:o.dst<;>simp [Act.put,I.defers],fun k aA=>by
   rcases (fN gi).1 aA with rfl | aA
   . exact JD
   . exact I.tV k aA,?_,ay,gy,dA,iL.trans hle,jA,aeM,fun k ok U ab=>by rw [fN gi];exact fx k ok U ab,
   fun k ok U ab aI=>ac6 k ok U ab ((fN gi).1 aI),adM,aeK,fun t aE=>?_⟩
  . intro k ok c6 aA bt eE ah;rw [fN gi] at aA ⊢;rcases yf k ok c6 aA.symm bt eE ah with h | h
    . exact .inr h
    . exact .inl h
  . by_cases aH:o.dst=some t
    . refine .inl ⟨i,o,e,by rw [fN gi];exact .inl rfl,cx,aH,rk,?_⟩;have aL:t<a.tmps.size:=by
       have:=hi.1;rw [aH] at this;simp only [eV,apn,apQ] at this;rw [I.size];exact this.1
      rw [aH];simp only [Act.put];rw [apO,apJ,apB rfl,apB aL];exact ao
    . have dt:(a.put o.dst x).tmps.getD t undef=a.tmps.getD t undef:=by
       cases aei:o.dst with
       | none=>rfl
       | some d=>
         simp only [Act.put];rw [apO,apO,apJ,apu (fun e=>aH (by rw [aei,e]))]
      rw [dt];rcases wI t aE with ⟨k,ok,DW,cg,ck,ek,ir,nt⟩ | ⟨cg,ck⟩
      . exact .inl ⟨k,ok,DW,by rw [fN gi];exact .inr cg,ck,ek,ir,Rel.mono hle _ _ nt⟩
      . refine .inr ⟨fun k ok aA bt=>?_,Rel.mono hle _ _ ck⟩;rw [fN gi] at aA;rcases aA with rfl | aA
        . rw [cx] at bt;cases bt;exact aH
        . exact cg k ok aA bt
 have Je:¬(gD o=true/\Made es aB aF i)->∀gy k,j3 ops es aB aF (listed.setIfInBounds i true) gy k↔j3 ops es aB aF listed gy k:=by
  intro bw gy k;constructor
  . rintro ⟨ok,aj,an,aJ,bE⟩;exact ⟨ok,aj,an,fun h=>aJ ((fN gi).2 (.inr h)),bE⟩
  . rintro ⟨ok,aj,an,aJ,bE⟩;refine ⟨ok,aj,an,fun h=>?_,bE⟩;rcases (fN gi).1 h with rfl | h
    . rw [cx] at aj;cases aj;exact bw an
    . exact aJ h
 cases lN:e4 P o.op with
 | true=>
   cases bw:gD o with
   | true=>
     have aL:posOf aF i<s:=by
      rcases aqJ (posOf aF i) s with h | h
      . exact h
      . have:=(level lN h).2;rw [bw] at this;cases this
     by_cases hm:Made es aB aF i
     case neg=>
      have J2:(cB P aw ops o).run (calls i) e.r (ch es aB s)=.val e.v (ch es aB s):=by
       rcases PZ bw cS with ⟨cY,cm,_⟩ | ⟨_,cm⟩
       . exact absurd (show Made es aB aF i from by unfold Made;rw [cm,hH];exact Nat.succ_ne_self _) hm
       . exact cm _
      refine q7 bK (cf i) (dH i) cx J2 I.size reads rz fun ay x w' aj an aJ=>dL _ _ (after s F ay x w' aW ET (fun k ok bt iC=>?_) (fun k ok bt p4 aA=>?_) (kc.congr fun k=>Je (fun h=>hm h.2) s k) aj an aJ)
      . constructor
        . rintro (rfl | h)
          . rw [cx] at bt;cases bt;unfold ej at iC;rw [bw] at iC;simp at iC
          . exact (mj k ok bt iC).1 h
        . intro h;exact .inr ((mj k ok bt iC).2 h)
      . rcases aA with rfl | aA
        . exact aL
        . exact dx k ok bt p4 aA
     have mh:j3 ops es aB aF listed s i:=⟨o,cx,⟨bw,hm⟩,uv,aL⟩;have JF:(ch es aB (posOf aF i+1)).next≠e.h.next:=by rw [<-hH];exact hm
     have iQ:nameAt es aB aF i=aC e.h.next:=by unfold nameAt;rw [hH]
     have mu:=(kc.new i mh).1;have yI:=(kc.new i mh).2;have oY:Av es aB aF i=(ch es aB (posOf aF i+1)).get (aC e.h.next):=by unfold Av;rw [iQ]
     rw [iQ,oY] at mu;refine aaZ cx bw cS I.size reads rz JF mu fun ay x w' aj an aJ=>dL _ _ (after s (F.free (aC e.h.next)) ay x w' aW ET (fun k ok bt iC=>?_) (fun k ok bt p4 aA=>?_) ?_ aj an aJ)
     . constructor
       . rintro (rfl | h)
         . rw [cx] at bt;cases bt;unfold ej at iC;rw [bw] at iC;simp at iC
         . exact (mj k ok bt iC).1 h
       . intro h;exact .inr ((mj k ok bt iC).2 h)
     . rcases aA with rfl | aA
       . exact aL
       . exact dx k ok bt p4 aA
     . have sub:∀k,j3 ops es aB aF (listed.setIfInBounds i true) s k->j3 ops es aB aF listed s k/\k≠i:=by
        rintro k ⟨ok,aj,an,aJ,bE⟩;refine ⟨⟨ok,aj,an,fun h=>aJ ((fN gi).2 (.inr h)),bE⟩,fun e=>aJ ((fN gi).2 (.inl e))⟩
       refine ⟨kc.w,fun b ah=>?_,fun k aA=>?_,fun k bp aA fU=>kc.inj k bp (sub k aA).1 (sub bp fU).1⟩
       . by_cases wg:b=aC e.h.next
         . subst wg;simp only [Fr.free,ap0];rw [<-iQ,yI]
         . simp only [Fr.free,apu wg];refine kc.bG b fun k aA=>?_;by_cases gv:k=i
           . subst gv;rw [iQ];exact fun e=>wg e.symm
           . obtain ⟨ok,aj,an,aJ,bE⟩:=aA;refine ah k ⟨ok,aj,an,fun h=>?_,bE⟩;rcases (fN gi).1 h with h | h
             . exact gv h
             . exact aJ h
       . obtain ⟨RE,gv⟩:=sub k aA;have cT:nameAt es aB aF k≠aC e.h.next:=fun e=>gv (kc.inj k i RE mh (by rw [e,iQ]))
         simp only [Fr.free,apu cT];exact kc.new k RE
   | false=>
     have yj:ej P o=true:=by unfold ej;rw [lN,bw];rfl
     have J6:s<=posOf aF i:=by
      rcases aqJ (posOf aF i) s with h | h
      . exact absurd ((mj i o cx yj).2 h) uv
      . exact h
     have qc:=(level lN J6).1;rw [<-hH,<-qc] at cS;refine q7 bK (cf i) (dH i) cx cS I.size reads rz fun ay x w' aj an aJ=>?_;rw [qc] at aJ;have ad5:∀k ok,ops[k]? =some ok->gD ok=true->posOf aF i+1<=posOf aF k->¬(listed.setIfInBounds i true).getD k false=true:=by
      intro k ok bt p4 ai h;rcases (fN gi).1 h with rfl | h
      . omega
      . have:=dx k ok bt p4 h;omega
     have adO:Holds az F es aB aF (j3 ops es aB aF (listed.setIfInBounds i true) (posOf aF i+1)):=by
      refine kc.congr fun k=>?_;rw [Je (fun h=>by rw [bw] at h;cases h.1)];constructor
      . rintro ⟨ok,bU,z2,z3,z4⟩;refine ⟨ok,bU,z2,z3,?_⟩;have ke:=(apr.1 bU).1;have:posOf aF k≠posOf aF i:=fun e=>by
         have:=C.w4 ke eb e;subst this;rw [cx] at bU;cases bU;rw [bw] at z2;cases z2.1
        omega
      . rintro ⟨ok,bU,z2,z3,z4⟩;exact ⟨ok,bU,z2,z3,by omega⟩
     obtain ⟨gy,dA,g1,g2,g3,g4,g5,g6⟩:=C.advance (N - (posOf aF i+1)) (posOf aF i+1) (by omega) ad5 F adO aJ;refine dL _ _ (after gy dA ay x w' g1 g3 (fun k ok bt iC=>?_) (fun k ok bt p4 aA=>?_) g5 aj an g6)
     . have ke:=(apr.1 bt).1;constructor
       . rintro (rfl | h)
         . omega
         . have:=(mj k ok bt iC).1 h;omega
       . intro h;by_cases gv:k=i
         . exact .inl gv
         . refine .inr ((mj k ok bt iC).2 ?_);rcases aqJ (posOf aF k) s with a7 | a7
           . exact a7
           . have cT:posOf aF k≠posOf aF i:=fun e=>gv (C.w4 ke eb e);have:=g4 k ok bt iC (by omega);omega
     . rcases aA with rfl | aA
       . omega
       . have:=dx k ok bt p4 aA;omega
 | false=>
   have bw:gD o=false:=by
    cases h:gD o with
    | false=>rfl
    | true=>rw [afv h] at lN;cases lN
   obtain ⟨c,au,J2⟩:∃c,(gJ P c/\gV P c)/\(cB P aw ops o).run c e.r (ch es aB s)=.val e.v (ch es aB s):=by
    cases dZ:looks o.op with
    | false=>exact ⟨_,⟨cf i,dH i⟩,(vR lN cS).2 dZ _⟩
    | true=>
      obtain ⟨c6,aj,an⟩:=C.ask i o cx dZ lN JD;rw [rk] at aj;cases aj
      obtain ⟨c,aa,au,aJ⟩:=an s aW (Mr (by rw [KI];simp) fun k mk ok U ab=>by
       simp only [apX];have bt:ops[k]? =some ok:=by simpa using ab
       cases wy:ej P ok with
       | false=>rfl
       | true=>
         simp only [apt];cases n0:Nat.blt (posOf aF k) s with
         | true=>
           rw [apQ] at n0;simp only [apt,aqs];cases ah:fR mk i with
           | false=>rfl
           | true=>exact absurd (RN k mk i U ah ((mj k ok bt wy).2 n0)) uv
         | false=>
           have ad1:¬posOf aF k<s:=by rw [<-apQ,n0];simp
           simp only [apA,aqs,mm,aqe];cases ah:fR cN k with
           | false=>rfl
           | true=>
             by_cases gv:k=i
             . subst gv;rw [cx] at bt;cases bt;unfold ej at wy;rw [lN] at wy;cases wy
             . exact absurd ((mj k ok bt wy).1 (A0 k gv ah)) ad1)
      rw [(vR lN aJ).1] at aJ;exact ⟨c,au,aJ⟩
   refine q7 bK au.1 au.2 cx J2 I.size reads rz fun ay x w' aj an aJ=>dL _ _ (after s F ay x w' aW ET (fun k ok bt iC=>?_) (fun k ok bt p4 aA=>?_) (kc.congr fun k=>Je (fun h=>by rw [bw] at h;cases h.1) s k) aj an aJ)
   . constructor
     . rintro (rfl | h)
       . rw [cx] at bt;cases bt;unfold ej at iC;rw [lN] at iC;cases iC
       . exact (mj k ok bt iC).1 h
     . intro h;exact .inr ((mj k ok bt iC).2 h)
   . rcases aA with rfl | aA
     . rw [cx] at bt;cases bt;rw [bw] at p4;cases p4
     . exact dx k ok bt p4 aA
theorem PU {D:List Deferred} {az:Fr} (C:Cert P aw ops calls es a1 aY c0 aB eC order aF N M lit) {gz:Env} (IX:N<=M) {listed:Array Bool} {a:Act} {w:World} (I:qL P az aw ops es a1 aB eC aF gz N D listed a w)
 (dx:∀k,k<ops.size->posOf aF k<N->listed.getD k false=true):∃ay,gz.le ay/\RegRel0 ay aw c0 a/\a.defers=D/\ba az ay aB w:=by
 obtain ⟨E,s,F,iL,aW,ET,mj,_,kc,rz,wI⟩:=I.main;have dC:es[N]? =none:=apS (by rw [C.len];exact aps _);have yo:ch es aB N=aB:=by simp [ch,dC]
 have R5:ey es c0 N=c0:=by simp [ey,dC]
 have qc:s=N:=by
  rcases C.VL s aW with (h | ⟨h,_⟩) | ⟨k,ok,cm,cz,fH⟩
  . have:=C.B4;omega
  . exact h
  . rcases aqJ s N with aL | jQ
    . have:=(mj k ok cm cz).1 (dx k (apr.1 cm).1 (by omega));omega
    . omega
 subst qc;have eX:F=az:=kc.none fun k aA=>by obtain ⟨ok,aj,an,aJ,bE⟩:=aA;exact aJ (dx k (apr.1 aj).1 bE)
 subst eX;rw [yo] at rz;have Er:∀k,posOf aF k<s->posOf aF k<M:=fun k h=>by omega
 refine ⟨E,iL,⟨I.size,fun t aE=>?_⟩,I.defers,rz⟩;have aeV:∀(k bp:Nat) (ok kW:Oper),ops[k]? =some ok->ops[bp]? =some kW->posOf aF k<s->posOf aF bp<s->ok.dst=some t->kW.dst=some t->k=bp:=by
  intro k bp ok kW U ab bR b7 aI bq;obtain ⟨mk,_,_,ai⟩:=C.m' k ok U;obtain ⟨mk',_,ih,_⟩:=ai (Er k bR) bp kW ab (Er bp b7);unfold ph at ih;rw [hB] at ih;by_cases kd:k=bp
  . exact kd
  . rw [apu kd,bq,aI] at ih;simp at ih
 rcases C.Ly s (aps _) t aE with ⟨k,ok,DW,aj,an,aJ,bE,cO⟩ | ⟨aj,an⟩
 . rw [R5] at cO;rcases wI t aE with ⟨bp,kW,Iq,cg,ck,ek,ir,nt⟩ | ⟨cg,_⟩
   . have:=aeV k bp ok kW an ck aj (I.tV bp cg) aJ ek;subst this;rw [bE] at ir;cases ir;rw [cO];exact nt
   . exact absurd aJ (cg k ok (dx k (apr.1 an).1 aj) an)
 . rw [R5] at an;rcases wI t aE with ⟨bp,kW,Iq,cg,ck,ek,ir,nt⟩ | ⟨_,ck⟩
   . exact absurd ek (aj bp kW (I.tV bp cg) ck)
   . rw [an];exact ck
theorem P4 {rd:Option Nat} {D:List Deferred} {az:Fr} (bK:ep P) (cf:∀i,gJ P (calls i)) (dH:∀i,gV P (calls i)) (C:Cert P aw ops calls es a1 aY c0 aB eC order aF N M false) {gz:Env} {Q:Exit->Act->World->Prop}
 (cw:N=ops.size->∀ay bk w',gz.le ay->RegRel0 ay aw c0 bk->bk.defers=D->ba az ay aB w'->Q .normal bk w')
 (gO:∀ay bk w' x v aa,gz.le ay->N<ops.size->ops.size<=M->(∃i0 h4,ops[i0]? =some h4/\posOf aF i0=N/\(cB P aw ops h4).run (calls i0) c0 aB=.cI v aa)->RegRel0 ay aw (oS a1 ops.toList) bk->bk.defers=D->Rel ay v x->ba az ay aa w'->Q (.panic (qu x)) bk w')
 (dM:M<ops.size->∀(fuel:Nat) (listed:Array Bool) ay bk w',(List.range ops.size).countP (fun i=>!listed.getD i false)<=fuel->listed.size=ops.size->qN ops (fun k=>listed.getD k false=true)->(∀k,k<ops.size->(listed.getD k false=true↔posOf aF k<N))->
   gz.le ay->RegRel0 ay aw c0 bk->bk.defers=D->ba az ay aB w'->wpAnyIn (cc rd) 0 P .any ops Q fuel listed bk w'):∀(fuel:Nat) (listed:Array Bool) (a:Act) (w:World),(List.range ops.size).countP (fun i=>!listed.getD i false)<=fuel->
 qL P az aw ops es a1 aB eC aF gz N D listed a w->wpAnyIn (cc rd) 0 P .any ops Q fuel listed a w:=by
 have done:∀(listed:Array Bool) (a:Act) (w:World),qL P az aw ops es a1 aB eC aF gz N D listed a w->Region.ready .any ops listed=[]->∀i,i<ops.size->listed.getD i false=true:=by
  intro listed a w I aD i
  induction i using Nat.strongRecOn with
  | _ i bh=>
    intro ax;cases gi:listed.getD i false with
    | true=>rfl
    | false=>
      exfalso;have cx:ops[i]? =some ops[i]:=apK ax;obtain ⟨cN,_,iD,_⟩:=C.m' i _ cx;have:i ∈ Region.ready .any ops listed:=by
       rw [mem_ready];refine ⟨?_,ops[i],cx,fun e he ah=>?_⟩
       . have cn:i<listed.size:=by rw [I.s4];exact ax
         rw [apO,apK cn] at gi ⊢;exact gi
       . have U:=apP.1 iD e (aqY.2 he);rw [xP] at ah;rw [ah] at U;simp only [Bool.not_true,ars,apQ] at U;exact bh e.on U (by omega)
      rw [aD] at this;simp at this
 have IX:=C.TL;have full:∀(listed:Array Bool) (a:Act) (w:World),qL P az aw ops es a1 aB eC aF gz N D listed a w->(∀k,k<ops.size->posOf aF k<N->listed.getD k false=true)->(N=ops.size\/(M<ops.size/\M=N))->
  ∃ay,gz.le ay/\RegRel0 ay aw c0 a/\a.defers=D/\ba az ay aB w:=fun _ _ _ I dx _=>PU C IX I dx
 have finish:∀(listed:Array Bool) (a:Act) (w:World),qL P az aw ops es a1 aB eC aF gz N D listed a w->Region.ready .any ops listed=[]->Q .normal a w:=by
  intro listed a w I aD;have dx:=done listed a w I aD;have IY:N=ops.size:=by
   rcases aqJ N ops.size with aL | jQ
   . exfalso;obtain ⟨i,ur,nY⟩:=C.ly N aL;have:=I.tV i (dx i ur);omega
   . exact Nat.le_antisymm C.B4 jQ
  obtain ⟨ay,g1,g2,g3,g4⟩:=full listed a w I (fun k aA _=>dx k aA) (.inl IY);exact cw IY ay a w g1 g2 g3 g4
 intro fuel
 induction fuel with
 | zero=>
   intro listed a w au I;have dx:∀i,i<ops.size->listed.getD i false=true:=by
    intro i ax;have aY:(List.range ops.size).countP (fun i=>!listed.getD i false)=0:=by omega
    rw [List.countP_eq_zero] at aY;simpa using aY i (aqX.2 ax)
   have aD:Region.ready .any ops listed=[]:=by
    cases aq:Region.ready .any ops listed with
    | nil=>rfl
    | cons j afE=>
      exfalso;have bC:j ∈ Region.ready .any ops listed:=by rw [aq];simp
      rw [mem_ready] at bC;obtain ⟨U,o,ab,_⟩:=bC;have:=dx j (apr.1 ab).1;rw [ud] at this;rw [apO,this] at U;simp at U
   exact ⟨aD,finish listed a w I aD⟩
 | succ fuel bh=>
   intro listed a w au I;by_cases o6:M<ops.size/\∀k,k<ops.size->posOf aF k<N->listed.getD k false=true
   . obtain ⟨we,dx⟩:=o6;obtain ⟨ay,g1,g2,g3,g4⟩:=full listed a w I dx (.inr ⟨we,(C.tail we).1⟩);exact dM we (fuel+1) listed ay a w au I.s4 I.down (fun k aA=>⟨I.tV k,dx k aA⟩) g1 g2 g3 g4
   have JW:∀i,i ∈ Region.ready .any ops listed->posOf aF i<M:=by
    intro i ax;have nY:=ax;rw [mem_ready] at nY;obtain ⟨U,o,ab,wm⟩:=nY;have eb:i<ops.size:=(apr.1 ab).1;rcases aqJ M ops.size with we | we
    . obtain ⟨Er,yC⟩:=C.tail we;rcases aqJ (posOf aF i) N with aL | jQ
      . omega
      . exfalso;refine o6 ⟨we,fun k aA Js=>?_⟩;obtain ⟨cN,mm,_⟩:=C.m' i o ab;have ah:=yC i o cN ab jQ mm k aA Js;have yf:qN ops fun k=>listed.getD k false=true\/k=i:=by
         intro k ok e aA bt he ah;rcases aA with aA | rfl
         . exact .inl (I.down k ok e aA bt he ah)
         . rw [ab] at bt;cases bt;exact .inl (wm e (aqY.1 he) (by rw [xP];exact ah))
        rcases BY yf ops.toList [] (fun j=>by simp) (fun k m j aA=>by simp at aA) i cN k mm ah (.inr rfl) with h | h
        . exact h
        . subst h;omega
    . have:=(C.iu i eb).1;omega
   refine ⟨fun aD=>finish listed a w I aD,fun i ax=>?_⟩;refine P5 bK cf dH C I ax (JW i ax) (fun h=>by cases h) (fun bk w' GP=>bh _ bk w' ?_ GP) gO;have nY:=ax;rw [mem_ready] at nY;obtain ⟨U,o,ab,_⟩:=nY;have eb:i<ops.size:=(apr.1 ab).1;have gi:i<listed.size:=by rw [I.s4];exact eb
   have uv:listed.getD i false=false:=by rw [apO,apK gi] at U ⊢;exact U
   have:=DJ (fun k=>!listed.getD k false) (fun k=>!(listed.setIfInBounds i true).getD k false) (List.range ops.size)
    (fun k _ aA=>by
      simp only [aqs] at aA ⊢;cases aq:listed.getD k false with
      | false=>rfl
      | true=>
        have:=(fN (k:=k) gi).2 (.inr aq);rw [aA] at this;cases this)
    ⟨i,aqX.2 eb,by simp [uv],by have:=(fN (k:=i) gi).2 (.inl rfl);simp [this]⟩
   omega
theorem ae.set_comm (h:ae) {b bO:aO} (cT:b≠bO) (k bp:b'):(h.set b k).set bO bp=(h.set bO bp).set b k:=by unfold ae.set;simp only;rw [T.put_comm _ _ _ _ _ _ (fun e=>cT e.symm)]
theorem LW {o:Oper} {x:Operand} (h:tn o=some x):∃t y,o.op=.store t x y/\o.dst=none/\o.guard=none:=by
 unfold tn at h
 split at h
 case h_2=>cases h
 rename_i t Wi y aT
 split at h
 case h_2=>cases h
 rename_i aH
 split at h
 case h_2=>cases h
 rename_i aG;cases h;exact ⟨t,y,aT,aH,aG⟩
theorem ah0 {h aa:ae} {b:aO} {off:Nat} {af:List V} (he:lay h b off af=some aa):∃k,aa=h.set b k/\∀H:ae,H.get b=h.get b->lay H b off af=some (H.set b k):=by
 unfold lay at he ⊢;cases aG:h.get b<;>rw [aG] at he<;>simp only [b'.on] at he<;>try (cases he;done)
 obtain ⟨au,U⟩:=eJ he;cases U;refine ⟨_,rfl,fun H mh=>?_⟩;rw [mh];simp only [b'.on,au,apt]
theorem P1 {all:Array Oper} {o:Oper} {x:Operand} {call:dR} {r:bI} {h aa:ae} {v:V} (ao:tn o=some x) (he:(cB P aw all o).run call r h=.val v aa):
 ∃b off k,(bV x).run (dp r (b4 all o))=.ptr b off/\aa=h.set b k/\∀H:ae,H.get b=h.get b->(cB P aw all o).run call r H=.val v (H.set b k):=by
 obtain ⟨t,y,aT,aH,aG⟩:=LW ao;obtain ⟨U,ab⟩:=kB he;have key:cB P aw all o=⟨jb none (fp P o) (b4 all o)⟩:=by unfold cB;rw [show (eV aw o.dst&&iW (b4 all o))=true from by rw [U,ab];rfl,aG];rfl
 rw [key] at he ⊢;simp only [jb] at he ⊢;have wi:∀H,(fp P o).run call (dp r (b4 all o)) H=gT .bad ((tm P t).run H ((bV x).run (dp r (b4 all o))) ((bV y).run (dp r (b4 all o)))):=by intro H;unfold fp;rw [aT]
 rw [wi] at he;cases aW:(tm P t).run h ((bV x).run (dp r (b4 all o))) ((bV y).run (dp r (b4 all o))) with
 | none=>rw [aW] at he;cases he
 | some aI=>
   rw [aW] at he;simp only [gT,a_.val.injEq] at he;obtain ⟨rfl,rfl⟩:=he;unfold tm at aW;cases aE:bc P t with
   | none=>rw [aE] at aW;cases aW
   | some aP=>
     rw [aE] at aW;simp only [rW] at aW;obtain ⟨b,off,ai,bq⟩:=y' aW;obtain ⟨au,cF⟩:=eJ bq;obtain ⟨k,cm,cz⟩:=ah0 cF;refine ⟨b,off,k,ai,cm,fun H mh=>?_⟩;rw [wi];unfold tm;rw [aE];simp only [rW,ai,V.iV,au,apt,cz H mh,gT]
theorem zh {listed:Array Bool} (iD:∀i o,ops[i]? =some o->mH i o=true) (cn:listed.size=ops.size) (aD:Region.ready .any ops listed=[]):∀i,i<ops.size->listed.getD i false=true:=by
 intro i
 induction i using Nat.strongRecOn with
 | _ i bh=>
   intro ax;cases gi:listed.getD i false with
   | true=>rfl
   | false=>
     exfalso;have cx:ops[i]? =some ops[i]:=apK ax;have iD:=iD i _ cx;have:i ∈ Region.ready .any ops listed:=by
      rw [mem_ready];refine ⟨?_,ops[i],cx,fun e he ah=>?_⟩
      . have aW:i<listed.size:=by rw [cn];exact ax
        rw [apO,apK aW] at gi ⊢;exact gi
      . have U:=apP.1 iD e (aqY.2 he);rw [xP] at ah;rw [ah] at U;simp only [Bool.not_true,ars,apQ] at U;exact bh e.on U (by omega)
     rw [aD] at this;simp at this
theorem w8 {listed:Array Bool} {i:Nat} (anW:listed.size=ops.size) (ax:i ∈ Region.ready .any ops listed):i<ops.size/\¬listed.getD i false=true:=by rw [mem_ready] at ax;obtain ⟨U,o,ab,_⟩:=ax;refine ⟨(apr.1 ab).1,fun h=>?_⟩;rw [ud] at h;rw [apO,h] at U;simp at U
theorem L6 {rd:Option Nat} {az:Fr} (bK:ep P) (cf:gJ P call) (dH:gV P call) (iD:∀i o,ops[i]? =some o->mH i o=true) {i:Nat} {o:Oper} (cx:ops[i]? =some o) (aH:o.dst=none) {r:bI} {h aa:ae} {v:V}
 (he:(cB P aw ops o).run call r h=.val v aa) {Q:Exit->Act->World->Prop} {E:Env} {a:Act} {w:World} (k:fo E aw r a) (s:ba az E h w) (cw:∀ay w',E.le ay->ba az ay aa w'->Q .normal a w')
 {listed:Array Bool} (cn:listed.size=ops.size) (dx:∀j,j<ops.size->(listed.getD j false=true↔j≠i)) (fuel:Nat) (aB:1<=fuel):wpAnyIn (cc rd) 0 P .any ops Q fuel listed a w:=by
 have eb:i<ops.size:=(apr.1 cx).1;have gi:i<listed.size:=by rw [cn];exact eb
 cases fuel with
 | zero=>omega
 | succ fuel=>
   refine ⟨fun aD=>absurd (zh iD cn aD i eb) (fun h=>((dx i eb).1 h) rfl),fun j bC=>?_⟩;obtain ⟨s0,s3⟩:=w8 cn bC;have adW:j=i:=by
    rcases Nat.decEq j i with cT | he
    . exact absurd ((dx j s0).2 cT) s3
    . exact he
   subst adW;refine q7 bK cf dH cx he k.size (fun t aE=>k.ak t (ap4 (apP.1 (kB he).2 t aE))) s fun ay x w' aj an aJ=>?_;rw [aH];refine wpAnyIn_done ?_ (cw ay w' aj aJ) fuel;cases aD:Region.ready .any ops (listed.setIfInBounds j true) with
   | nil=>rfl
   | cons m ms=>
     exfalso;have hm:m ∈ Region.ready .any ops (listed.setIfInBounds j true):=by rw [aD];simp
     obtain ⟨m1,m2⟩:=w8 (by simp [cn]) hm;refine m2 ((fN gi).2 ?_);by_cases RO:m=j
     . exact .inl RO
     . exact .inr ((dx m m1).2 RO)
theorem amy {rd:Option Nat} {az:Fr} (bK:ep P) (cf:gJ P call) (dH:gV P call) (iD:∀i o,ops[i]? =some o->mH i o=true) {i j:Nat} {o p:Oper} (cx:ops[i]? =some o) (nZ:ops[j]? =some p) (o2:i≠j) (aH:o.dst=none) (mu:p.dst=none)
 {r:bI} {h U fv ab:ae} {v b1 u e7:V} (he:(cB P aw ops o).run call r h=.val v U) (ai:(cB P aw ops p).run call r U=.val u ab) (hn:(cB P aw ops p).run call r h=.val e7 fv) (eE:(cB P aw ops o).run call r fv=.val b1 ab)
 {Q:Exit->Act->World->Prop} {E:Env} {a:Act} {w:World} (k:fo E aw r a) (s:ba az E h w) (cw:∀ay w',E.le ay->ba az ay ab w'->Q .normal a w')
 {listed:Array Bool} (cn:listed.size=ops.size) (dx:∀m,m<ops.size->(listed.getD m false=true↔(m≠i/\m≠j))) (fuel:Nat) (aB:2<=fuel):wpAnyIn (cc rd) 0 P .any ops Q fuel listed a w:=by
 have eb:i<ops.size:=(apr.1 cx).1;have Ba:j<ops.size:=(apr.1 nZ).1;have kO:∀{q:Oper} {H gm:ae} {z:V},(cB P aw ops q).run call r H=.val z gm->∀t ∈ b4 ops q,Rel E (T.get .bad (aC t) r) (a.tmps.getD t undef):=
  fun he t aE=>k.ak t (ap4 (apP.1 (kB he).2 t aE))
 cases fuel with
 | zero=>omega
 | succ fuel=>
   refine ⟨fun aD=>absurd (zh iD cn aD i eb) (fun h=>((dx i eb).1 h).1 rfl),fun m hm=>?_⟩;obtain ⟨m1,m2⟩:=w8 cn hm;have hX:m=i\/m=j:=by
    rcases Nat.decEq m i with cT | he
    . rcases Nat.decEq m j with aee | et
      . exact absurd ((dx m m1).2 ⟨cT,aee⟩) m2
      . exact .inr et
    . exact .inl he
   rcases hX with rfl | rfl
   . refine q7 bK cf dH cx he k.size (kO he) s fun ay x w' aj an aJ=>?_;rw [aH];have gi:m<listed.size:=by rw [cn];exact eb
     refine L6 bK cf dH iD nZ mu ai (k.mono aj) aJ (fun bM bH cg ck=>cw bM bH (aj.trans cg) ck) (by simp [cn]) (fun z bm=>?_) fuel (by omega);rw [fN gi,dx z bm];constructor
     . rintro (rfl | h)
       . exact o2
       . exact h.2
     . intro h;by_cases BA:z=m
       . exact .inl BA
       . exact .inr ⟨BA,h⟩
   . refine q7 bK cf dH nZ hn k.size (kO hn) s fun ay x w' aj an aJ=>?_;rw [mu];have gi:m<listed.size:=by rw [cn];exact Ba
     refine L6 bK cf dH iD cx aH eE (k.mono aj) aJ (fun bM bH cg ck=>cw bM bH (aj.trans cg) ck) (by simp [cn]) (fun z bm=>?_) fuel (by omega);rw [fN gi,dx z bm];constructor
     . rintro (rfl | h)
       . exact fun e=>o2 e.symm
       . exact h.1
     . intro h;by_cases BA:z=m
       . exact .inl BA
       . exact .inr ⟨h,BA⟩
theorem Wc {rd:Option Nat} {id:Nat} {a:Act} {w:World} {Q:Exit->Act->World->Prop} (hm:P.follows .mixedOrders=true)
 (h:wpAnyIn (cc rd) 0 P .any ops Q ops.size (Array.replicate ops.size false) a {w with drawn:=w.drawn+1}):(Code.region id ops true).wpIn (cc rd) 0 P Q a w:=by
 refine wpIn_region_draw fun t=>?_;rw [hm];exact wpAnyIn_sound _ _ _ _ _ h
theorem L_ {r bb:bI}:∀{rs:List Nat},(∀t ∈ rs,T.get .bad (aC t) bb=T.get .bad (aC t) r)->dp bb rs=dp r rs
 | [],_=>rfl
 | t::bx,h=>by simp only [dp];rw [h t (by simp),L_ (rs:=bx) fun u hu=>h u (by simp [hu])]
theorem aaX {all:Array Oper} {o:Oper} {call:dR} {r bb:bI} (h:∀t ∈ b4 all o,T.get .bad (aC t) bb=T.get .bad (aC t) r) (H:ae):(cB P aw all o).run call bb H=(cB P aw all o).run call r H:=by
 unfold cB;cases au:(eV aw o.dst&&iW (b4 all o)) with
 | false=>rfl
 | true=>
   simp only [apt];cases aG:o.guard with
   | none=>simp only [jb,L_ h]
   | some n'=>
     obtain ⟨j,want⟩:=n';simp only;cases all[j]? with
     | none=>rfl
     | some g=>
       simp only;cases g.dst with
       | none=>rfl
       | some d=>
         simp only;cases (Nat.blt d aw&&Nat.ble d top) with
         | false=>rfl
         | true=>simp only [apt,jb,L_ h]
theorem amx {rd:Option Nat} {az:Fr} (bK:ep P) (cf:gJ P call) (dH:gV P call) (iD:∀i o,ops[i]? =some o->mH i o=true) {l i j:Nat} {b o p:Oper} (wA:ops[l]? =some b) (cx:ops[i]? =some o) (nZ:ops[j]? =some p)
 (gi:l≠i) (RG:l≠j) (o2:i≠j) (aH:o.dst=none) (mu:p.dst=none) {r a':bI} {h U fv ab:ae} {z v b1 u e7:V}
 (ah:∀H,(cB P aw ops b).run call r H=.val z H) (wH:a'=(fI b.dst).run r z) (yB:∀t ∈ b4 ops p,T.get .bad (aC t) a'=T.get .bad (aC t) r)
 (he:(cB P aw ops o).run call a' h=.val v U) (ai:(cB P aw ops p).run call a' U=.val u ab) (hn:(cB P aw ops p).run call a' h=.val e7 fv) (eE:(cB P aw ops o).run call a' fv=.val b1 ab)
 {Q:Exit->Act->World->Prop} {E:Env} {a:Act} {w:World} (k:fo E aw r a) (s:ba az E h w) (cw:∀ay bk w',E.le ay->fo ay aw a' bk->ba az ay ab w'->Q .normal bk w')
 {listed:Array Bool} (cn:listed.size=ops.size) (AV:qN ops fun k=>listed.getD k false=true) (aeZ:∀cN,(eP [] ops.toList)[i]? =some cN->fR cN l=true) (mm:∃cN,(eP [] ops.toList)[i]? =some cN)
 (dx:∀m,m<ops.size->(listed.getD m false=true↔(m≠l/\m≠i/\m≠j))) (fuel:Nat) (aB:3<=fuel):wpAnyIn (cc rd) 0 P .any ops Q fuel listed a w:=by
 have hk:l<ops.size:=(apr.1 wA).1;have eb:i<ops.size:=(apr.1 cx).1;have Ba:j<ops.size:=(apr.1 nZ).1;have kO:∀{E:Env} {a:Act} {q:Oper} {R:bI} {H gm:ae} {z:V},fo E aw R a->(cB P aw ops q).run call R H=.val z gm->∀t ∈ b4 ops q,Rel E (T.get .bad (aC t) R) (a.tmps.getD t undef):=
  fun k he t aE=>k.ak t (ap4 (apP.1 (kB he).2 t aE))
 have TO:∀(L:Array Bool),(qN ops fun k=>L.getD k false=true)->¬L.getD l false=true->i ∈ Region.ready .any ops L->False:=by
  intro L acN p9 ml;rw [mem_ready] at ml;obtain ⟨_,b_,hl,wm⟩:=ml;rw [cx] at hl;cases hl;obtain ⟨cN,mm⟩:=mm;have yf:qN ops fun k=>L.getD k false=true\/k=i:=by
   intro k ok e aA bt he ah;rcases aA with aA | rfl
   . exact .inl (acN k ok e aA bt he ah)
   . rw [cx] at bt;cases bt;exact .inl (wm e (aqY.1 he) (by rw [xP];exact ah))
  rcases BY yf ops.toList [] (fun j=>by simp) (fun k m j aA=>by simp at aA) i cN l mm (aeZ cN mm) (.inr rfl) with h | h
  . exact p9 h
  . exact gi h
 have aa2:∀m,m ∈ Region.ready .any ops listed->qN ops fun k=>(listed.setIfInBounds m true).getD k false=true:=by
  intro m hm k ok e aA bt he ah;have n1:=hm;rw [mem_ready] at n1;obtain ⟨_,T7,RV,wm⟩:=n1;have JH:m<listed.size:=by rw [cn];exact (apr.1 RV).1
  rw [fN JH] at aA ⊢;rcases aA with rfl | aA
  . rw [RV] at bt;cases bt;exact .inr (wm e (aqY.1 he) (by rw [xP];exact ah))
  . exact .inr (AV k ok e aA bt he ah)
 cases fuel with
 | zero=>omega
 | succ fuel=>
   refine ⟨fun aD=>absurd (zh iD cn aD i eb) (fun h=>((dx i eb).1 h).2.1 rfl),fun m hm=>?_⟩;obtain ⟨m1,m2⟩:=w8 cn hm;have hX:m=l\/m=j:=by
    rcases Nat.decEq m l with cL | av
    . rcases Nat.decEq m j with fi | aK
      . rcases Nat.decEq m i with n3 | bF
        . exact absurd ((dx m m1).2 ⟨cL,n3,fi⟩) m2
        . subst bF;exact (TO listed AV (fun h=>((dx l hk).1 h).1 rfl) hm).elim
      . exact .inr aK
    . exact .inl av
   rcases hX with rfl | rfl
   . -- p first
     have lO:m<listed.size:=by rw [cn];exact hk
     refine q7 bK cf dH wA (ah h) k.size (kO k (ah h)) s fun ay x w' aj an aJ=>?_;have cm:fo ay aw a' (a.put b.dst x):=by rw [wH];exact (k.mono aj).put (kB (ah h)).1 an
     refine amy bK cf dH iD cx nZ o2 aH mu he ai hn eE cm aJ (fun bM bH cg ck=>cw bM _ bH (aj.trans cg) (cm.mono cg) ck) (by simp [cn]) (fun y a8=>?_) fuel (by omega);rw [fN lO,dx y a8];constructor
     . rintro (rfl | h)
       . exact ⟨gi,RG⟩
       . exact h.2
     . intro h;by_cases By:y=m
       . exact .inl By
       . exact .inr ⟨By,h⟩
   . -- q first
     have lO:m<listed.size:=by rw [cn];exact Ba
     have gC:(cB P aw ops p).run call r h=.val e7 fv:=by rw [<-aaX yB];exact hn
     have acO:=aa2 m hm;refine q7 bK cf dH nZ gC k.size (kO k gC) s fun ay x w' aj an aJ=>?_;rw [mu];have wK:(listed.setIfInBounds m true).size=ops.size:=by simp [cn]
     cases fuel with
     | zero=>omega
     | succ fuel=>
       refine ⟨fun aD=>absurd (zh iD wK aD i eb) (fun h=>?_),fun y a8=>?_⟩
       . rcases (fN lO).1 h with e | h
         . exact o2 e
         . exact ((dx i eb).1 h).2.1 rfl
       obtain ⟨eR,hc⟩:=w8 wK a8;have ae7:y=l:=by
        rcases Nat.decEq y l with cL | av
        . rcases Nat.decEq y i with n3 | bF
          . exfalso;refine hc ((fN lO).2 ?_);by_cases By:y=m
            . exact .inl By
            . exact .inr ((dx y eR).2 ⟨cL,n3,By⟩)
          . subst bF;refine (TO _ acO (fun h=>?_) a8).elim;rcases (fN lO).1 h with e | h
            . exact RG e
            . exact ((dx l hk).1 h).1 rfl
        . exact av
       subst ae7;have bp:=k.mono aj;refine q7 bK cf dH wA (ah fv) bp.size (kO bp (ah fv)) aJ fun bM eH bH t1 t2 t3=>?_;have cm:fo bM aw a' (a.put b.dst eH):=by rw [wH];exact (bp.mono t1).put (kB (ah h)).1 t2
       have JE:y < (listed.setIfInBounds m true).size:=by rw [wK];exact hk
       refine L6 bK cf dH iD cx aH eE cm t3 (fun gl k6 cg ck=>cw gl _ k6 (aj.trans (t1.trans cg)) (cm.mono cg) ck) (by simp [cn]) (fun g aG=>?_) fuel (by omega);rw [fN JE,fN lO,dx g aG];constructor
       . rintro (rfl | rfl | h)
         . exact gi
         . exact fun e=>o2 e.symm
         . exact h.2.1
       . intro h;by_cases av:g=y
         . exact .inl av
         . by_cases aK:g=m
           . exact .inr (.inl aK)
           . exact .inr (.inr ⟨av,h,aK⟩)
theorem Ig {rd:Option Nat} {az:Fr} {E:Env} {h:ae} {w:World} {id:Nat} (cJ:P.follows .mixedOrders=true) (bK:ep P) (cf:gJ P call) (dH:gV P call) {r:bI} {a:Act}
 {Q:Exit->Act->World->Prop} (k:fo E aw r a) (s:ba az E h w) {es:List e0} {eG:bI} {a7:ae} {order aF eC:List Nat} {N M:Nat} (C:Cert P aw ops (fun _=>call) es r h eG a7 eC order aF N M false)
 (cw:N=ops.size->∀ay bk w',E.le ay->fo ay aw eG bk->ba az ay a7 w'->Q .normal bk w')
 (gO:∀ay bk w' x v aa,E.le ay->N<ops.size->ops.size<=M->(∃i0 h4,ops[i0]? =some h4/\posOf aF i0=N/\(cB P aw ops h4).run call eG a7=.cI v aa)->fo ay aw (oS r ops.toList) bk->Rel ay v x->ba az ay aa w'->Q (.panic (qu x)) bk w')
 (dM:M<ops.size->∀(fuel:Nat) (listed:Array Bool) ay bk w',(List.range ops.size).countP (fun i=>!listed.getD i false)<=fuel->listed.size=ops.size->qN ops (fun k=>listed.getD k false=true)->(∀k,k<ops.size->(listed.getD k false=true↔posOf aF k<N))->
   E.le ay->fo ay aw eG bk->ba az ay a7 w'->wpAnyIn (cc rd) 0 P .any ops Q fuel listed bk w'):
 (Code.region id ops true).wpIn (cc rd) 0 P Q a w:=by
 have dC:∀k,¬(Array.replicate ops.size false).getD k false=true:=by
  intro k;rw [ud,Array.getElem?_replicate]
  split<;>simp
 have kc:Holds az az es a7 aF (j3 ops es a7 aF (Array.replicate ops.size false) 0):=
  ⟨rfl,fun _ _=>rfl,fun k aA=>(by obtain ⟨_,_,_,_,aY⟩:=aA;omega),fun k bp aA=>(by obtain ⟨_,_,_,_,aY⟩:=aA;omega)⟩
 obtain ⟨gy,dA,g1,g2,g3,g4,g5,g6⟩:=C.advance N 0 (by omega) (fun k o _ _ _=>dC k) az kc (E:=E) (w:={w with drawn:=w.drawn}) (by rw [C.aY];exact s.same rfl rfl rfl rfl);have kI:∀(ay:Env) (bk:Act),E.le ay->bk.defers=a.defers->∀(bb:bI),T.get .bad eU bb=T.get .bad eU r->lE ay (T.get .bad eU bb) bk.defers:=fun ay bk he aH bb sQ=>by rw [sQ,aH];exact k.defers.mono he
 have EB:T.get .bad eU eG=T.get .bad eU r:=by have:=C.Ih N (aps _);have JN:es[N]? =none:=apS (by rw [C.len];exact aps _);simpa [ey,JN] using this
 refine Wc cJ (P4 bK (fun _=>cf) (fun _=>dH) C (gz:=E) (D:=a.defers)
  (fun aV ay bk w' aj an aJ bE=>cw aV ay bk w' aj ⟨an,kI ay bk aj aJ eG EB⟩ bE)
  (fun ay bk w' x v aa aj an UM aJ bE cO en hO=>gO ay bk w' x v aa aj an UM aJ ⟨bE,kI ay bk aj cO _ D2⟩ en hO)
  (fun g0 fuel listed ay bk w' g1 g2 g3 g4 aj an aJ bE=>dM g0 fuel listed ay bk w' g1 g2 g3 g4 aj ⟨an,kI ay bk aj aJ eG EB⟩ bE) ops.size _ a _ ?_ ?_)
 . exact aqc ary (by simp)
 . refine ⟨by simp,k.size,rfl,fun bp aA=>absurd aA (dC bp),fun bp o e aA=>absurd aA (dC bp),E,gy,dA,Env.le.refl E,g1,g3,fun bp o U ab=>⟨fun h=>absurd h (dC bp),fun h=>by have:=g4 bp o U ab (aqL _);omega⟩,
    fun bp o _ _ h=>absurd h (dC bp),g5,?_,fun t aE=>.inr ⟨fun bp o aA=>absurd aA (dC bp),k.ak t aE⟩⟩
   exact g6.same rfl rfl rfl rfl
theorem Uo {n:Nat} {order aF:List Nat} (hI:lA n order aF=true):order.length=n/\(∀k,k<n->posOf aF k<n/\order[posOf aF k]? =some k)/\∀p,p<n->∃i,i<n/\posOf aF i=p:=by
 unfold lA at hI;simp only [apn,apT] at hI;obtain ⟨o4,yt,Bh,Bi⟩:=hI;refine ⟨o4,fun k aA=>?_,fun p ai=>?_⟩
 . have aG:aF[k]? =some (posOf aF k):=by
    unfold posOf;rw [apo (by omega)];rfl
   have:=uW Bh aG;rw [apX] at this;exact ⟨by have:=(apL.1 this).1;omega,this⟩
 . have aG:order[p]? =some (order[p]'(by omega)):=apo (by omega);have:=uW Bi aG;rw [apX] at this;refine ⟨order[p]'(by omega),by have:=(apL.1 this).1;omega,?_⟩;unfold posOf;rw [this];rfl
theorem amv {order aF:List Nat} (aB:Cx P ops order aF=true):3<=ops.size/\∀i o,ops[i]? =some o->∃cN,(eP [] ops.toList)[i]? =some cN/\mH i o=true/\
 (posOf aF i<ops.size-3->∀k ok,ops[k]? =some ok->posOf aF k<ops.size-3->∃mk,(eP [] ops.toList)[k]? =some mk/\ph i cN (b4 ops o) o.dst k mk ok (Nat.blt (posOf aF k) (posOf aF i))=true/\(e4 P o.op=true->ej P ok=true->posOf aF k<posOf aF i->fR cN k=true))/\
 (¬posOf aF i<ops.size-3->Gu P ops order aF (ops.size-3) i cN o=true):=by
 unfold Cx at aB;simp only [apn,apF] at aB;refine ⟨aB.1,fun i o ax=>?_⟩;obtain ⟨cN,U,ab⟩:=qJ aB.2 i o (by simpa using ax);simp only [apX,apn] at ab;refine ⟨cN,U,ab.1,fun aL k ok aA ke=>?_,fun jQ=>?_⟩
 . have aI:=ab.2;rw [show Nat.blt (posOf aF i) (ops.size-3)=true from by rw [apQ];exact aL] at aI;simp only [apt] at aI;obtain ⟨mk,cm,cz⟩:=qJ aI k ok (by simpa using aA);simp only [apX] at cz;rw [show Nat.blt (posOf aF k) (ops.size-3)=true from by rw [apQ];exact ke] at cz;simp only [apt,apn] at cz;refine ⟨mk,cm,cz.1,fun av aK aL=>?_⟩;have fH:=cz.2;rw [av,aK,aqm,show Nat.blt (posOf aF k) (posOf aF i)=true from by rw [apQ];exact aL] at fH;exact fH
 . have aI:=ab.2;rw [show Nat.blt (posOf aF i) (ops.size-3)=false from by rw [<-ap1,apQ];exact jQ] at aI;exact aI
theorem amw {order aF:List Nat} {N i cN p:Nat} {o Cj:Oper} (ai:order[N]? =some p) (lP:ops[p]? =some Cj) (h:Gu P ops order aF N i cN o=true):
 (∀k,k<ops.size->posOf aF k<N->fR cN k=true)/\(posOf aF i=N->e4 P o.op=false/\looks o.op=false)/\(posOf aF i≠N->∃x,tn o=some x)/\
 (posOf aF i=N+1->fR cN p=true)/\(posOf aF i=N+2->∀t ∈ b4 ops o,Cj.dst≠some t):=by
 unfold Gu at h;rw [ai] at h;simp only [apn] at h;obtain ⟨⟨U,ab⟩,aI,bq⟩:=h;refine ⟨fun k aA Js=>?_,fun e=>?_,fun e=>?_,fun e=>?_,fun e t aE=>?_⟩
 . obtain ⟨mk,cm,cz⟩:=qJ U k ops[k] (by simp);simp only [apX] at cz;rw [show Nat.blt (posOf aF k) N=true from by rw [apQ];exact Js] at cz;exact cz
 . rw [hB,apB e] at ab;simpa using ab
 . rw [hB,apu e] at ab;exact Option.isSome_iff_exists.1 ab
 . rw [hB,apB e] at aI;exact aI
 . rw [hB,apB e,lP] at bq;simp only at bq;intro aH;rw [aH] at bq;simp only [aqs] at bq;rw [show (b4 ops o).contains t=true from by simpa using aE] at bq;cases bq
theorem Jc {es:List e0} {a7:ae} {N p:Nat} (ai:p<=N):ch (es.take N) (ch es a7 N) p=ch es a7 p:=by
 by_cases h:p<N
 . cases he:es[p]? with
   | some e=>simp [ch,h,he]
   | none=>
     have aV:es[N]? =none:=apS (by have:=List.getElem?_eq_none_iff.1 he;omega);simp [ch,h,he,aV]
 . have:p=N:=by omega
   subst this;simp [ch,List.getElem?_take]
theorem UZ {es:List e0} {eG:bI} {N p:Nat} (ai:p<=N):ey (es.take N) (ey es eG N) p=ey es eG p:=by
 by_cases h:p<N
 . cases he:es[p]? with
   | some e=>simp [ey,h,he]
   | none=>
     have aV:es[N]? =none:=apS (by have:=List.getElem?_eq_none_iff.1 he;omega);simp [ey,h,he,aV]
 . have:p=N:=by omega
   subst this;simp [ey,List.getElem?_take]
theorem XN {order:List Nat} {es:List e0} {N i j:Nat} {o p:Oper} {e f:e0} {x y:Operand} (bw:Dl ops order es N=true) (ax:order[N]? =some i) (bC:order[N+1]? =some j) (cx:ops[i]? =some o) (nZ:ops[j]? =some p)
 (he:es[N]? =some e) (aB:es[N+1]? =some f) (ao:tn o=some x) (a8:tn p=some y) {b c:aO} {off jE:Nat} (ah:(bV x).run (dp e.r (b4 ops o))=.ptr b off) (au:(bV y).run (dp f.r (b4 ops p))=.ptr c jE):b≠c:=by
 unfold Dl LX at bw;simp only [ax,bC,cx,nZ,he,aB,ao,a8,ah,au] at bw;intro h;subst h;rw [aO.AK] at bw;cases bw
theorem aa4 {rd:Option Nat} {az:Fr} {E:Env} {h:ae} {w:World} {id:Nat} (cJ:P.follows .mixedOrders=true) (bK:ep P) (cf:gJ P call) (dH:gV P call) {r:bI} {a:Act} {order aF:List Nat} (hI:lA ops.size order aF=true) (hi:Cx P ops order aF=true)
 {Q:Exit->Act->World->Prop} (ai:nM az E aw (Q .normal) Q (Ie ops order (fC P aw ops (hs ops order)) (so P aw ops (eP [] ops.toList) aF (hL P aF 0 ops.toList) 0 ops.toList) call r h)) (k:fo E aw r a) (s:ba az E h w):(Code.region id ops true).wpIn (cc rd) 0 P Q a w:=by
 obtain ⟨o4,iu,ly⟩:=Uo hI;obtain ⟨ab,hi⟩:=amv hi;unfold Ie at ai;cases cD:(fC P aw ops (hs ops order)).run call r h with
 | fail=>rw [cD] at ai;exact ai.elim
 | cI _ _ _ _ _=>rw [cD] at ai;exact ai.elim
 | ok es eG a7=>
   rw [cD] at ai;simp only at ai;obtain ⟨N,ac0⟩:∃N,N=ops.size-3:=⟨_,rfl⟩;rw [<-ac0] at ai hi;cases aq:(Dl ops order es (N+1)&&(so P aw ops (eP [] ops.toList) aF (hL P aF 0 ops.toList) 0 ops.toList).run call (es.take N) (ch es a7 N)) with
   | false=>rw [aq] at ai;exact ai.elim
   | true=>
     rw [aq] at ai;simp only [apt] at ai;simp only [apn] at aq;obtain ⟨Ew,AY⟩:=aq;obtain ⟨aj,an,aJ,bE⟩:=u7 cD;have hlen:es.length=ops.size:=by rw [aj,qs,o4]
     have inj:∀i j,i<ops.size->j<ops.size->posOf aF i=posOf aF j->i=j:=by intro i j ax bC he;have a:=(iu i ax).2;have b:=(iu j bC).2;rw [he,b] at a;cases a;rfl
     obtain ⟨my,ug,yg⟩:=ly N (by omega);obtain ⟨o9,yc,yd⟩:=ly (N+1) (by omega);obtain ⟨rB,wb,AU⟩:=ly (N+2) (by omega);have A':ops[my]? =some ops[my]:=apK ug;have ED:ops[o9]? =some ops[o9]:=apK yc;have EE:ops[rB]? =some ops[rB]:=apK wb;have JT:=(iu my ug).2;have JR:=(iu o9 yc).2;have JS:=(iu rB wb).2;rw [yg] at JT;rw [yd] at JR;rw [AU] at JS;have yC:∀i o,ops[i]? =some o->¬posOf aF i<N->∃cN,(eP [] ops.toList)[i]? =some cN/\(∀k,k<ops.size->posOf aF k<N->fR cN k=true)/\(posOf aF i=N->e4 P o.op=false/\looks o.op=false)/\(posOf aF i≠N->∃x,tn o=some x)/\
      (posOf aF i=N+1->fR cN my=true)/\(posOf aF i=N+2->∀t ∈ b4 ops o,ops[my].dst≠some t):=by
      intro i o ax jQ;obtain ⟨cN,bU,_,_,z4⟩:=hi i o ax;exact ⟨cN,bU,amw JT A' (z4 jQ)⟩
     obtain ⟨aoI,_,_,amt,_⟩:=yC my _ A' (by omega);obtain ⟨aiL,RM,_,_,amr,ag,_⟩:=yC o9 _ ED (by omega);obtain ⟨aoH,yr,_,_,ams,_,Lv⟩:=yC rB _ EE (by omega);obtain ⟨Qa,aiG⟩:=amt yg;obtain ⟨apf,Kb⟩:=amr (by omega);obtain ⟨apg,Kc⟩:=ams (by omega);have ag:=ag yd;have Lv:=Lv AU;obtain ⟨Ip,fh,h1,Ku⟩:=bE _ _ (nr JT A');obtain ⟨vU,bJ,a2,a3⟩:=bE _ _ (nr JR ED);obtain ⟨P_,bR,b7,eL⟩:=bE _ _ (nr JS EE);obtain ⟨ao8,apj,ajx,PM,an_⟩:=LW Kb;obtain ⟨ao9,apk,aoR,PN,aoa⟩:=LW Kc;have dC:es[N+2+1]? =none:=apS (by omega);have ad4:ch es a7 (N+2+1)=a7:=by simp [ch,dC]
     have ali:ey es eG (N+2+1)=eG:=by simp [ey,dC]
     have acZ:ch es a7 N=Ip.h:=by simp [ch,fh]
     have akW:ey es eG N=Ip.r:=by simp [ey,fh]
     have acX:ch es a7 (N+1)=vU.h:=by simp [ch,bJ]
     have akU:ey es eG (N+1)=vU.r:=by simp [ey,bJ]
     have acY:ch es a7 (N+1+1)=P_.h:=by simp [ch,bR]
     have akV:ey es eG (N+1+1)=P_.r:=by simp [ey,bR]
     rw [akU] at Ku;rw [acX] at h1;rw [PM,akV] at a3;rw [PN,ali] at eL;simp only [fI] at a3 eL;rw [acY] at a2;rw [ad4] at b7;obtain ⟨acW,IW⟩:=vR Qa h1;have IW:=IW aiG;obtain ⟨Nl,aoS,afG,akk,Vj,amY⟩:=P1 Kb a2;obtain ⟨HH,aoT,SF,akl,alL,amZ⟩:=P1 Kc b7;have cT:Nl≠HH:=XN Ew JR JS ED EE bJ bR Kb Kc akk akl;have IT:=amZ vU.h (by rw [Vj,ae.dV,apu cT]);have AT:=amY (vU.h.set HH SF) (by rw [ae.dV,apu (fun e=>cT e.symm)]);have adh:(vU.h.set HH SF).set Nl afG=a7:=by rw [ae.set_comm _ (fun e=>cT e.symm),<-Vj,<-alL]
     rw [adh] at AT;rw [a3] at IT b7;have wJ:eG=vU.r:=eL.trans a3;have aeb:∀m,m<ops.size->(posOf aF m<N↔(m≠my/\m≠o9/\m≠rB)):=by
      intro m hm;have aow:=(iu m hm).1;constructor
      . intro h;exact ⟨fun e=>by subst e;omega,fun e=>by subst e;omega,fun e=>by subst e;omega⟩
      . rintro ⟨cK,cL,fi⟩;have pH:posOf aF m≠N:=fun e=>cK (inj m my hm ug (by rw [e,yg]));have bQ:posOf aF m≠N+1:=fun e=>cL (inj m o9 hm yc (by rw [e,yd]));have b2:posOf aF m≠N+2:=fun e=>fi (inj m rB hm wb (by rw [e,AU]));omega
     have adg:ej P ops[o9]=true:=by unfold ej gD;rw [ajx];rfl
     have yB:∀t ∈ b4 ops ops[rB],T.get .bad (aC t) vU.r=T.get .bad (aC t) Ip.r:=by intro t aE;have yE:t<=top:=ap4 (apP.1 (kB b7).2 t aE);rw [Ku,QV (kB h1).1 yE,apu (Lv t aE)]
     have hY:∀i o,ops[i]? =some o->posOf aF i<N->∃e,(es.take N)[posOf aF i]? =some e/\(cB P aw ops o).run call e.r e.h=.val e.v (ch (es.take N) (ch es a7 N) (posOf aF i+1))/\ey (es.take N) (ey es eG N) (posOf aF i+1)=(fI o.dst).run e.r e.v:=by
      intro i o aT ax;obtain ⟨e,bU,z2,z3⟩:=bE _ o (nr (iu i (apr.1 aT).1).2 aT);refine ⟨e,by simp [ax,bU],?_,?_⟩
      . rw [Jc (by omega)];exact z2
      . rw [UZ (by omega)];exact z3
     have C:Cert P aw ops (fun _=>call) (es.take N) r h (ey es eG N) (ch es a7 N) (N::hL P aF 0 ops.toList) order aF N N false:=
      ⟨by simp [hlen];omega,by omega,aps _,iu,ly,by rw [Jc (aqL _)];exact an,by rw [UZ (aqL _)];exact aJ,hY,
        fun i o aT=>by
         obtain ⟨cN,bU,z2,z3,_⟩:=hi i o aT
         exact ⟨cN,bU,z2,fun ax k ok aA Jr=>by
          obtain ⟨mk,eR,hc,y3⟩:=z3 ax k ok aA Jr
          exact ⟨mk,eR,hc,fun a b c=>.inl (y3 a b c)⟩⟩,
        by simp,
        fun j o U ab=>ap6 _ (by simpa using yR (aF:=aF) (i:=0) (j:=j) (l:=ops.toList) (by simpa using U) ab),
        fun s aW=>by
         rcases apI.1 aW with rfl | aW
         . exact .inl (.inr ⟨rfl,rfl⟩)
         . rcases uL aW with h | ⟨j,o,U,ab,aI⟩
           . exact .inl (.inl (by simpa using h))
           . exact .inr ⟨j,o,by simpa using U,ab,by simpa using aI⟩,
        fun j o U ab aI bq=>by
         obtain ⟨e,g1,_⟩:=hY j o U bq;have R_:=HC AY j o (by simpa using U) ab aI e (by simpa using g1);refine ⟨e,g1,fun s aW hm=>?_⟩;rcases apI.1 aW with rfl | aW
         . have nd:s6 P (eP [] ops.toList) ops.toList aF j (((eP [] ops.toList)[j]?).getD 0) (s+1)=true:=by
            unfold s6 at hm ⊢;refine Mr (by rw [KI];simp) fun cY mk ok eR hc=>?_;obtain ⟨mk',bB,eH⟩:=qJ hm cY ok hc;rw [eR] at bB;cases bB;simp only [apX] at eH ⊢;have bt:ops[cY]? =some ok:=by simpa using hc
            have ke:=(apr.1 bt).1;by_cases n0:posOf aF cY=s
            . have:cY=my:=inj cY my ke ug (by rw [n0,yg]);subst this;rw [A'] at bt;cases bt;have aed:ej P ops[cY]=false:=by unfold ej;rw [Qa];rfl
              rw [aed];rfl
            . have:Nat.blt (posOf aF cY) (s+1)=Nat.blt (posOf aF cY) s:=by
               rw [aqg,apQ,apQ];omega
              rw [this];exact eH
           have ml:s+1 ∈ hL P aF 0 ops.toList:=by rw [<-yd];simpa using yR (P:=P) (aF:=aF) (i:=0) (j:=o9) (l:=ops.toList) (by simp) adg
           obtain ⟨aa,g3⟩:=R_ (s+1) ml (by simpa using nd);refine ⟨call,aa,⟨cf,dH⟩,?_⟩;have av:ch (es.take s) (ch es a7 s) (s+1)=ch es a7 s:=by have:(es.take s)[s+1]? =none:=apS (by simp;omega);simp only [ch,this]
           have aK:ch (es.take s) (ch es a7 s) s=ch es a7 s:=Jc (aps _);rw [av] at g3;rw [aK];exact g3
         . obtain ⟨aa,g3⟩:=R_ s aW (by simpa using hm);exact ⟨call,aa,⟨cf,dH⟩,g3⟩,
        fun _=>⟨rfl,fun cY ok mk aA jQ Be j bC A_=>by obtain ⟨cN,bU,z2,_⟩:=yC cY ok aA (by omega);rw [Be] at bU;cases bU;exact z2 j bC A_⟩,
        fun U ab=>by omega⟩
     refine Ig cJ bK cf dH k s C (fun h=>by omega) (fun _ _ _ _ _ _ _ _ h=>by omega) (fun _ fuel listed ay bk w' g1 g2 g3 g4 g5 g6 g7=>?_);rw [akW] at g6;rw [acZ] at g7;rw [acW] at a2 IT AT;refine amx bK cf dH (fun i o aT=>by obtain ⟨cN,_,z2,_⟩:=hi i o aT;exact z2) A' ED EE (fun e=>by rw [e] at yg;omega) (fun e=>by rw [e] at yg;omega) (fun e=>by rw [e] at yd;omega) PM PN
      IW Ku yB a2 b7 IT AT g6 g7 (fun bM a2 bH cg ck ek=>ai bM a2 bH (g5.trans cg) (by rw [wJ];exact ck) ek) g2 g3 (fun cN mm=>by rw [RM] at mm;cases mm;exact ag) ⟨aiL,RM⟩ (fun m hm=>(g4 m hm).trans (aeb m hm)) fuel ?_
     have H7:∀(L:Array Bool) (x:Nat),L.size=ops.size->x<ops.size->¬L.getD x false=true->(List.range ops.size).countP (fun k=>!(L.setIfInBounds x true).getD k false) < (List.range ops.size).countP (fun k=>!L.getD k false):=by
      intro L x cX ao aV;have yK:x<L.size:=by rw [cX];exact ao
      refine DJ (fun k=>!L.getD k false) (fun k=>!(L.setIfInBounds x true).getD k false) (List.range ops.size) (fun k _ aA=>?_) ⟨x,aqX.2 ao,?_,?_⟩
      . simp only [aqs] at aA ⊢;cases aq:L.getD k false with
        | false=>rfl
        | true=>
          have:=(fN (k:=k) yK).2 (.inr aq);rw [aA] at this;cases this
      . cases aq:L.getD x false with
        | false=>rfl
        | true=>exact absurd aq aV
      . have:=(fN (k:=x) yK).2 (.inl rfl);simp [this]
     have ai9:¬listed.getD my false=true:=fun h=>by have:=(g4 my ug).1 h;omega
     have ai7:¬listed.getD o9 false=true:=fun h=>by have:=(g4 o9 yc).1 h;omega
     have ai8:¬listed.getD rB false=true:=fun h=>by have:=(g4 rB wb).1 h;omega
     have bQ:=H7 listed my g2 ug ai9
     have b2:=H7 (listed.setIfInBounds my true) o9 (by simp [g2]) yc (fun h=>by
      rcases (fN (by rw [g2];exact ug)).1 h with e | h
      . rw [e] at yd;omega
      . exact ai7 h)
     have c3:=H7 ((listed.setIfInBounds my true).setIfInBounds o9 true) rB (by simp [g2]) wb (fun h=>by
      rcases (fN (by simp [g2];exact yc)).1 h with e | h
      . rw [e] at AU;omega
      . rcases (fN (by rw [g2];exact ug)).1 h with e | h
        . rw [e] at AU;omega
        . exact ai8 h)
     omega
end
section
variable {P:Program} {aw:Nat} {ops:Array Oper} {call:dR}
inductive px {α β:Type} (R:α->β->Prop):List α->List β->Prop
 | nil:px R [] []
 | cons {a:α} {b:β} {KD:List α} {KE:List β} (h:R a b) (t:px R KD KE):px R (a::KD) (b::KE)
def w7 (ops:Array Oper) (t:Nat) (listed:Array Bool):Option Nat:=(Region.ready .any ops listed)[t % (Region.ready .any ops listed).length]?
theorem go_succ (fuel t:Nat) (listed:Array Bool):Region.linearise.go .any ops (fuel+1) t listed []=match w7 ops t listed with
 | some i=>i::Region.linearise.go .any ops fuel (t / (Region.ready .any ops listed).length) (listed.setIfInBounds i true) []
 | none=>[]:=by
 simp only [Region.linearise.go]
 change (match (Region.ready .any ops listed)[t % (Region.ready .any ops listed).length]? with
  | some i=>Region.linearise.go .any ops fuel (t / (Region.ready .any ops listed).length) (listed.setIfInBounds i true) [i]
  | none=>[].reverse)=_
 unfold w7;cases (Region.ready .any ops listed)[t % (Region.ready .any ops listed).length]? with
 | none=>rfl
 | some i=>
   simp only;rw [linearise_go_acc,List.reverse_singleton,List.singleton_append]
theorem UW {t:Nat} {listed:Array Bool} (h:w7 ops t listed=none):Region.ready .any ops listed=[]:=by
 unfold w7 at h;cases aD:Region.ready .any ops listed with
 | nil=>rfl
 | cons x xs=>
   rw [aD] at h;have aL:t % (x::xs).length < (x::xs).length:=Nat.mod_lt _ (by simp);rw [apo aL] at h;cases h
theorem Lx {t i:Nat} {listed:Array Bool} (h:w7 ops t listed=some i):i ∈ Region.ready .any ops listed:=apR h
theorem count_set {listed:Array Bool} {i:Nat} (cn:listed.size=ops.size) (ax:i<ops.size) (aV:¬listed.getD i false=true):
 (List.range ops.size).countP (fun k=>!(listed.setIfInBounds i true).getD k false) < (List.range ops.size).countP (fun k=>!listed.getD k false):=by
 have ar:i<listed.size:=by rw [cn];exact ax
 refine DJ (fun k=>!listed.getD k false) (fun k=>!(listed.setIfInBounds i true).getD k false) (List.range ops.size) (fun k _ aA=>?_) ⟨i,aqX.2 ax,?_,?_⟩
 . simp only [aqs] at aA ⊢;cases aq:listed.getD k false with
   | false=>rfl
   | true=>
     have:=(fN (k:=k) ar).2 (.inr aq);rw [aA] at this;cases this
 . cases aq:listed.getD i false with
   | false=>rfl
   | true=>exact absurd aq aV
 . have:=(fN (k:=i) ar).2 (.inl rfl);simp [this]
theorem QW (iD:∀i o,ops[i]? =some o->mH i o=true):∀(fuel t:Nat) (listed:Array Bool),listed.size=ops.size->(List.range ops.size).countP (fun i=>!listed.getD i false)<=fuel->
 (Region.linearise.go .any ops fuel t listed []).Nodup/\(∀k ∈ Region.linearise.go .any ops fuel t listed [],k<ops.size/\¬listed.getD k false=true)/\
  ∀k,k<ops.size->listed.getD k false=true\/k ∈ Region.linearise.go .any ops fuel t listed []
 | 0,t,listed,cn,au=>by
   have e:Region.linearise.go .any ops 0 t listed []=[]:=rfl;rw [e];refine ⟨List.nodup_nil,fun k aA=>by simp at aA,fun k aA=>.inl ?_⟩;have aY:(List.range ops.size).countP (fun i=>!listed.getD i false)=0:=by omega
   rw [List.countP_eq_zero] at aY;simpa using aY k (aqX.2 aA)
 | fuel+1,t,listed,cn,au=>by
   rw [go_succ];cases aD:w7 ops t listed with
   | none=>
     simp only;exact ⟨List.nodup_nil,fun k aA=>by simp at aA,fun k aA=>.inl (zh iD cn (UW aD) k aA)⟩
   | some i=>
     simp only;obtain ⟨i1,i2⟩:=w8 cn (Lx aD);have ar:i<listed.size:=by rw [cn];exact i1
     have:=count_set cn i1 i2;obtain ⟨g1,g2,g3⟩:=QW iD fuel (t / (Region.ready .any ops listed).length) (listed.setIfInBounds i true) (by simp [cn]) (by omega);refine ⟨arz.2 ⟨fun hm=>(g2 i hm).2 ((fN ar).2 (.inl rfl)),g1⟩,fun k aA=>?_,fun k aA=>?_⟩
     . rcases apI.1 aA with rfl | aA
       . exact ⟨i1,i2⟩
       . exact ⟨(g2 k aA).1,fun h=>(g2 k aA).2 ((fN ar).2 (.inr h))⟩
     . rcases g3 k aA with h | h
       . rcases (fN ar).1 h with rfl | h
         . exact .inr (by simp)
         . exact .inl h
       . exact .inr (by simp [h])
theorem Gq {o:Oper} {os:List Oper} {r:bI} {h:ae} {es:List e0} {c0:bI} {aB:ae} (he:(fC P aw ops (o::os)).run call r h=.ok es c0 aB):
 ∃v U hE,(cB P aw ops o).run call r h=.val v U/\(fC P aw ops os).run call ((fI o.dst).run r v) U=.ok hE c0 aB/\es=⟨r,h,v⟩::hE:=by
 simp only [fC,Cw] at he;cases U:(cB P aw ops o).run call r h with
 | fail=>rw [U] at he;cases he
 | cI _ _=>rw [U] at he;simp only at he;cases hm:l0 o.op<;>rw [hm] at he<;>cases he
 | val v a7=>
   rw [U] at he;simp only at he;cases ab:(fC P aw ops os).run call ((fI o.dst).run r v) a7 with
   | fail=>rw [ab] at he;cases he
   | cI _ _ _ _ _=>rw [ab] at he;cases he
   | ok hE a' aI=>
     rw [ab] at he;simp only [qM.ok.injEq] at he;obtain ⟨rfl,rfl,rfl⟩:=he;exact ⟨v,a7,hE,rfl,ab,rfl⟩
theorem Gr {o:Oper} {os:List Oper} {r:bI} {h U:ae} {v:V} {hE:List e0} {c0:bI} {aB:ae} (aY:(cB P aw ops o).run call r h=.val v U) (ab:(fC P aw ops os).run call ((fI o.dst).run r v) U=.ok hE c0 aB):
 (fC P aw ops (o::os)).run call r h=.ok (⟨r,h,v⟩::hE) c0 aB:=by
 simp only [fC,Cw,aY,ab]
theorem LU:∀(fh h1:List Oper) {r:bI} {h:ae} {es:List e0} {c0:bI} {aB:ae},(fC P aw ops (fh++h1)).run call r h=.ok es c0 aB->
 ∃hE a' U q',(fC P aw ops fh).run call r h=.ok hE a' U/\(fC P aw ops h1).run call a' U=.ok q' c0 aB/\es=hE++q'
 | [],h1,r,h,es,c0,aB,he=>⟨[],r,h,es,rfl,he,rfl⟩
 | o::os,h1,r,h,es,c0,aB,he=>by obtain ⟨v,U,hE,aj,an,rfl⟩:=Gq he;obtain ⟨Ix,a',aI,q',g1,g2,rfl⟩:=LU os h1 an;exact ⟨⟨r,h,v⟩::Ix,a',aI,q',Gr aj g1,g2,rfl⟩
theorem LV:∀(fh h1:List Oper) {r a' c0:bI} {h U aB:ae} {hE q':List e0},(fC P aw ops fh).run call r h=.ok hE a' U->(fC P aw ops h1).run call a' U=.ok q' c0 aB->
 (fC P aw ops (fh++h1)).run call r h=.ok (hE++q') c0 aB
 | [],h1,r,a',c0,h,U,aB,hE,q',he,ab=>by simp only [fC,qM.ok.injEq] at he;obtain ⟨rfl,rfl,rfl⟩:=he;exact ab
 | o::os,h1,r,a',c0,h,U,aB,hE,q',he,ab=>by obtain ⟨v,aI,Ix,aj,an,rfl⟩:=Gq he;exact Gr aj (LV os h1 an ab)
theorem Ca:∀(a b:List Nat),hs ops (a++b)=hs ops a++hs ops b
 | [],b=>rfl
 | x::xs,b=>by simp [hs,Ca xs b]
theorem UN:∀(l:List Oper),(∀o ∈ l,e4 P o.op=false/\looks o.op=false)->∀{r c0:bI} {h aB:ae} {es:List e0},(fC P aw ops l).run call r h=.ok es c0 aB->
 aB=h/\∀H:ae,∃fF,(fC P aw ops l).run call r H=.ok fF c0 H
 | [],_,r,c0,h,aB,es,he=>by simp only [fC,qM.ok.injEq] at he;obtain ⟨rfl,rfl,rfl⟩:=he;exact ⟨rfl,fun H=>⟨[],rfl⟩⟩
 | o::os,aq,r,c0,h,aB,es,he=>by obtain ⟨v,U,hE,aj,an,rfl⟩:=Gq he;obtain ⟨av,aK⟩:=aq o (by simp);obtain ⟨d1,d2⟩:=vR av aj;subst d1;obtain ⟨g1,g2⟩:=UN os (fun b_ hl=>aq b_ (by simp [hl])) an;refine ⟨g1,fun H=>?_⟩;obtain ⟨fF,g3⟩:=g2 H;exact ⟨_,Gr (d2 aK H) g3⟩
theorem BD {o:Oper} {A:xr} (h:lS o=some A):o.op=.insert A.t A.m A.k A.x/\o.dst=none/\o.guard=none:=by
 unfold lS at h
 split at h
 case h_2=>cases h
 rename_i t m k x aT
 split at h
 case h_2=>cases h
 rename_i aH
 split at h
 case h_2=>cases h
 rename_i aG;cases h;exact ⟨aT,aH,aG⟩
theorem UI {e:dJ} {k v:V} {c:Nat}:∀{es:List cb},(∀m ∈ es,e.run k m.k=some false)->k1 e k v c es=some (es++[⟨k,v,c⟩],true)
 | [],_=>rfl
 | m::ms,h=>by simp only [k1,h m (by simp),apA,UI (es:=ms) fun cZ nd=>h cZ (by simp [nd]),ap3]
theorem aaY {o:Oper} {A:xr} (yp:BL P A.t=true) (na:lS o=some A) {r:bI} {H1 cE:ae} {v:V} (he:(cB P aw ops o).run call r H1=.val v cE) {b:aO} (ah:(bV A.m).run (dp r (b4 ops o))=.map b):
 ∀(H:ae) es c,H.get b=.mp es c->(∀m ∈ es,(uG P A.t).run ((bV A.k).run (dp r (b4 ops o))) m.k=some false)->
  (cB P aw ops o).run call r H=.val .bad (H.set b (.mp (es++[⟨(bV A.k).run (dp r (b4 ops o)),(bV A.x).run (dp r (b4 ops o)),c⟩]) (c+1))):=by
 obtain ⟨aT,aH,aG⟩:=BD na;obtain ⟨U,ab⟩:=kB he;have key:cB P aw ops o=⟨jb none (fp P o) (b4 ops o)⟩:=by unfold cB;rw [show (eV aw o.dst&&iW (b4 ops o))=true from by rw [U,ab];rfl,aG];rfl
 rw [key] at he ⊢;simp only [jb] at he ⊢;have wi:∀H,(fp P o).run call (dp r (b4 ops o)) H=gT .bad ((pv P A.t).run H (.map b) ((bV A.k).run (dp r (b4 ops o))) ((bV A.x).run (dp r (b4 ops o)))):=by intro H;unfold fp;rw [aT];simp only [ah]
 rw [wi] at he;have aeW:pv P A.t=⟨j2 (uG P A.t)⟩:=by
  cases aW:(pv P A.t).run H1 (.map b) ((bV A.k).run (dp r (b4 ops o))) ((bV A.x).run (dp r (b4 ops o))) with
  | none=>rw [aW] at he;cases he
  | some aI=>
    unfold pv at aW ⊢;unfold uG;cases aE:bc P A.t with
    | none=>rw [aE] at aW;cases aW
    | some aP=>
      rw [aE] at aW;simp only at aW ⊢;cases bX:aP.bj<;>rw [bX] at aW<;>simp only at aW ⊢<;>try (cases aW;done)
      rename_i da kC;cases iP:bc P da with
      | none=>rw [iP] at aW;cases aW
      | some gx=>
        rw [iP] at aW;simp only at aW ⊢;cases aB:kQ gx.bj with
        | false=>
          unfold BL at yp;rw [aE] at yp;simp only [bX,iP,aB] at yp;cases yp
        | true=>rfl
 intro H es c mh aA;rw [wi,aeW];simp only [j2,mh,b'.hN,UI aA,gT,apt]
theorem aft {o:Oper} {r:bI} {b:aO} {m:cb} (h:uE ops r b o=some m):∃A,lS o=some A/\(bV A.m).run (dp r (b4 ops o))=.map b/\m.k=(bV A.k).run (dp r (b4 ops o))/\m.v=(bV A.x).run (dp r (b4 ops o)):=by
 unfold uE at h;cases bw:lS o with
 | none=>rw [bw] at h;cases h
 | some A=>
   rw [bw] at h;simp only at h;cases hm:(bV A.m).run (dp r (b4 ops o))<;>rw [hm] at h<;>simp only at h<;>try (cases h;done)
   obtain ⟨au,U⟩:=eJ h;have:=aO.mf au;subst this;cases U;exact ⟨A,rfl,hm,rfl,rfl⟩
def k7 (ops:Array Oper) (r:bI) (b:aO) (i:Nat) (m:cb):Prop:=∃o,ops[i]? =some o/\uE ops r b o=some m
theorem k7.Ia {r:bI} {b:aO} {i:Nat} {m cZ:cb} (h:k7 ops r b i m) (aa:k7 ops r b i cZ):m=cZ:=by obtain ⟨o,U,ab⟩:=h;obtain ⟨b_,aI,bq⟩:=aa;rw [U] at aI;cases aI;rw [ab] at bq;cases bq;rfl
theorem E5 {r:bI} {b:aO}:∀{is:List Nat} {ms:List cb},wP ops r b is=some ms->px (k7 ops r b) is ms
 | [],ms,h=>by simp only [wP,apq] at h;subst h;exact .nil
 | i::is,ms,h=>by
   simp only [wP] at h;cases aT:ops[i]? with
   | none=>rw [aT] at h;cases h
   | some o=>
     rw [aT] at h;simp only at h;cases hm:uE ops r b o with
     | none=>rw [hm] at h;cases h
     | some m=>
       rw [hm] at h;simp only at h;cases aW:wP ops r b is with
       | none=>rw [aW] at h;cases h
       | some aoK=>
         rw [aW] at h;simp only [apq] at h;subst h;exact .cons ⟨o,aT,hm⟩ (E5 aW)
theorem SC {x:Option Bool} (h:isFalse x=true):x=some false:=by
 cases x with
 | none=>cases h
 | some b=>cases b<;>simp_all [isFalse]
theorem Hv {e:dJ} {m:cb}:∀{ms:List cb},Dm e m ms=true->∀cZ ∈ ms,e.run m.k cZ.k=some false/\e.run cZ.k m.k=some false
 | [],_,cZ,h=>by simp at h
 | x::xs,h,cZ,hm=>by
   simp only [Dm,apn] at h;rcases apI.1 hm with rfl | hm
   . exact ⟨SC h.1,SC h.2.1⟩
   . exact Hv h.2.2 cZ hm
theorem M7 {r:bI} {b:aO} {e:dJ}:∀{is:List Nat} {ms:List cb},px (k7 ops r b) is ms->is.Nodup->Am e ms=true->∀i j m cZ,i ∈ is->j ∈ is->i≠j->k7 ops r b i m->k7 ops r b j cZ->e.run m.k cZ.k=some false
 | _,_,.nil,_,_,i,_,_,_,ax,_,_,_,_=>by simp at ax
 | _,_,.cons (a:=x) (b:=ev) (KD:=xs) (KE:=ai6) aY aE,aV,bw,i,j,m,cZ,ax,bC,o2,hm,nd=>by
   simp only [Am,apn] at bw;rw [arz] at aV;have Ss:∀k n,k ∈ xs->k7 ops r b k n->n ∈ ai6:=by
    intro k n aA ad0;have gen:∀{is:List Nat} {ms:List cb},px (k7 ops r b) is ms->k ∈ is->n ∈ ms:=by
     intro is ms aB
     induction aB with
     | nil=>intro aA;simp at aA
     | cons U _ bh=>
       intro aA;rcases apI.1 aA with rfl | aA
       . rw [ad0.Ia U];simp
       . exact ap6 _ (bh aA)
    exact gen aE aA
   rcases apI.1 ax with RC | ax
   . rcases apI.1 bC with Jq | bC
     . exact absurd (RC.trans Jq.symm) o2
     . rw [RC] at hm;rw [hm.Ia aY];exact (Hv bw.1 cZ (Ss j cZ bC nd)).1
   . rcases apI.1 bC with Jq | bC
     . rw [Jq] at nd;rw [nd.Ia aY];exact (Hv bw.1 m (Ss i m ax hm)).2
     . exact M7 aE aV.2 bw.2 i j m cZ ax bC o2 hm nd
theorem Kj {jm:bI} {b:aO} {e:dJ} {I:List Nat} (nX:∀i ∈ I,∃o A m,ops[i]? =some o/\lS o=some A/\(BL P A.t=true/\uG P A.t=e)/\uE ops jm b o=some m/\∃v H1 cE,(cB P aw ops o).run call jm H1=.val v cE)
 (Ev:∀i j m cZ,i ∈ I->j ∈ I->i≠j->k7 ops jm b i m->k7 ops jm b j cZ->e.run m.k cZ.k=some false):
 ∀(τ:List Nat) (done:List Nat) (ds:List cb) (c:Nat) (H:ae),(∀i ∈ τ,i ∈ I)->(∀i ∈ done,i ∈ I)->(done++τ).Nodup->(∀m ∈ ds,∃i ∈ done,∃cZ,k7 ops jm b i cZ/\m.k=cZ.k)->H.get b=.mp ds c->
  ∃es ms gL gm,(fC P aw ops (hs ops τ)).run call jm H=.ok es jm gm/\gm.get b=.mp (ds++ms) gL/\(∀k,b≠k->gm.get k=H.get k)/\(∀k,gm.set b k=H.set b k)/\(∀e ∈ es,∀k,b≠k->e.h.get k=H.get k)/\
   px (fun i (m:cb)=>∃cZ,k7 ops jm b i cZ/\m.k=cZ.k/\m.v=cZ.v) τ ms
 | [],done,ds,c,H,_,_,_,_,mh=>⟨[],[],c,H,rfl,by rw [aqB];exact mh,fun _ _=>rfl,fun _=>rfl,fun e he=>by simp at he,.nil⟩
 | i::τ,done,ds,c,H,E0,Rq,o3,uk,mh=>by
   obtain ⟨o,A,m,aT,na,⟨yp,wy⟩,hm,v,H1,cE,cS⟩:=nX i (E0 i (by simp));obtain ⟨iY,Q9,ah,aA,ao⟩:=aft hm;rw [na] at Q9;cases Q9;have ru:i ∉ done:=fun h=>by rw [arB] at o3;exact o3.2.2 i h i (by simp) rfl
   have hY:=aaY yp na cS ah H ds c mh (fun cZ nd=>by
    obtain ⟨j,bC,aiZ,adz,adZ⟩:=uk cZ nd;rw [adZ,wy,<-aA]
    exact Ev i j m aiZ (E0 i (by simp)) (Rq j bC) (fun e=>ru (e ▸ bC)) ⟨o,aT,hm⟩ adz)
   obtain ⟨_,aH,_⟩:=BD na;obtain ⟨es,ms,gL,gm,g1,g2,g3,g4,g6,g5⟩:=Kj nX Ev τ (done++[i]) (ds++[⟨(bV A.k).run (dp jm (b4 ops o)),(bV A.x).run (dp jm (b4 ops o)),c⟩]) (c+1)
    (H.set b (.mp (ds++[⟨(bV A.k).run (dp jm (b4 ops o)),(bV A.x).run (dp jm (b4 ops o)),c⟩]) (c+1))) (fun j bC=>E0 j (by simp [bC]))
    (fun j bC=>by
      rcases aqv.1 bC with h | h
      . exact Rq j h
      . simp only [aqa] at h;subst h;exact E0 j (by simp)) (by simpa using o3)
    (fun cZ nd=>by
      rcases aqv.1 nd with h | h
      . obtain ⟨j,bC,r⟩:=uk cZ h;exact ⟨j,by simp [bC],r⟩
      . simp only [aqa] at h;subst h
        exact ⟨i,by simp,m,⟨o,aT,hm⟩,aA.symm⟩) (by rw [ae.dV,apB rfl])
   have R9:=Gr (os:=hs ops τ) hY (by rw [aH];exact g1);rw [show o::hs ops τ=hs ops (i::τ) from by simp [hs,aT]] at R9;refine ⟨_,⟨(bV A.k).run (dp jm (b4 ops o)),(bV A.x).run (dp jm (b4 ops o)),c⟩::ms,gL,gm,R9,by rw [g2,ap8];rfl,fun k aA=>?_,fun k=>?_,fun c6 eE k aA=>?_,.cons ⟨m,⟨o,aT,hm⟩,aA.symm,ao.symm⟩ g5⟩
   . rw [g3 k aA,ae.dV,apu aA]
   . rw [g4];unfold ae.set;simp only [T.UK]
   . rcases apI.1 eE with rfl | eE
     . rfl
     . rw [g6 c6 eE k aA,ae.dV,apu aA]
def qW (E:Env):List (V × V)->List MapEntry->Prop
 | [],l=>l=[]
 | p::bn,l=>∃e es,l=e::es/\Rel E p.1 e.key/\Rel E p.2 e.val/\qW E bn es
theorem qW.perm {E:Env} {bn jZ:List (V × V)} (h:bn.Perm jZ):∀{l:List MapEntry},qW E jZ l->∃e',qW E bn e'/\e'.Perm l:=by
 induction h with
 | nil=>intro l h;exact ⟨l,h,.refl _⟩
 | cons x _ bh=>
   intro l h;obtain ⟨e,es,rfl,U,ab,aI⟩:=h;obtain ⟨e',g1,g2⟩:=bh aI;exact ⟨e::e',⟨e,e',rfl,U,ab,g1⟩,g2.cons e⟩
 | swap x y vc=>
   intro l h;obtain ⟨e,es,rfl,U,ab,c6,fF,rfl,aI,bq,cF⟩:=h;exact ⟨c6::e::fF,⟨c6,_,rfl,aI,bq,e,fF,rfl,U,ab,cF⟩,List.Perm.swap _ _ _⟩
 | trans _ _ aff afg=>
   intro l h;obtain ⟨fh,g1,g2⟩:=afg h;obtain ⟨h1,g3,g4⟩:=aff g1;exact ⟨h1,g3,g4.trans g2⟩
theorem qW.TZ {E:Env}:∀{ms:List cb} {l:List MapEntry},dq E ms l->qW E (ms.map fun m=>(m.k,m.v)) l
 | [],l,h=>h
 | m::ms,l,h=>by obtain ⟨e,es,rfl,U,ab,_,bq⟩:=h;exact ⟨e,es,rfl,U,ab,qW.TZ bq⟩
theorem iI.T0 {E:Env}:∀{ms:List cb} {l:List MapEntry},qW E (ms.map fun m=>(m.k,m.v)) l->iI E ms l
 | [],l,h=>h
 | m::ms,l,h=>by obtain ⟨e,es,rfl,U,ab,bq⟩:=h;exact ⟨e,es,rfl,U,ab,iI.T0 bq⟩
theorem ba.forget {az:Fr} {E:Env} {h:ae} {w:World} (s:ba az E h w) {b:aO} {p:js} {es ms:List cb} {c:Nat} (aG:h.get b=.mp es c) (ai:E b=some p) (hI:(ms.map fun m=>(m.k,m.v)).Perm (es.map fun m=>(m.k,m.v))):
 ba az E (h.set b (.hM ms)) w:=by
 have ah:=s.at ai;rw [aG] at ah;obtain ⟨p',a,hn,cC,a7,hm⟩:=ah;rw [ai] at hn;cases hn;obtain ⟨l,g1,g2⟩:=qW.perm hI (qW.TZ hm);exact s.set (by rw [aG];rfl) ai cC (aps _) (fun _ _=>rfl) rfl rfl rfl (fun _ _ _ e=>by cases e) ⟨p,a,c,l,ai,cC,a7,iI.T0 g1,g2⟩
theorem Sy:∀(l:List Oper),(∀o ∈ l,o.dst=none)->∀{r c0:bI} {h aB:ae} {es:List e0},(fC P aw ops l).run call r h=.ok es c0 aB->∀o ∈ l,∃v H1 cE,(cB P aw ops o).run call r H1=.val v cE
 | [],_,_,_,_,_,_,_,o,aT=>by simp at aT
 | x::xs,aH,r,c0,h,aB,es,he,o,aT=>by
   obtain ⟨v,U,hE,aj,an,rfl⟩:=Gq he;rcases apI.1 aT with rfl | aT
   . exact ⟨v,h,U,aj⟩
   . rw [aH x (by simp)] at an;exact Sy xs (fun b_ hl=>aH b_ (by simp [hl])) an o aT
theorem aiE {t:TypeId} {H H1:ae} {c:aO} {off:Nat} (h:H.get c=H1.get c):(qp P t).run H (.ptr c off)=(qp P t).run H1 (.ptr c off):=by
 unfold qp;cases bc P t with
 | none=>rfl
 | some aP=>
   simp only;cases aP.agg with
   | true=>simp only [apt,nm,V.iV,h]
   | false=>
     simp only [apA];cases Nat.beq aP.size 1 with
     | true=>simp only [apt,nn,V.iV,h]
     | false=>rfl
theorem aa0 {o:Oper} {t:TypeId} {x:Operand} (aT:o.op=.load t x) (aG:o.guard=none) {r:bI} {H1 aa:ae} {v:V} (he:(cB P aw ops o).run call r H1=.val v aa) {c:aO} {off:Nat} (ao:(bV x).run (dp r (b4 ops o))=.ptr c off)
 (H:ae) (mh:H.get c=H1.get c):(cB P aw ops o).run call r H=.val v H:=by
 obtain ⟨U,ab⟩:=kB he;have key:cB P aw ops o=⟨jb none (fp P o) (b4 ops o)⟩:=by unfold cB;rw [show (eV aw o.dst&&iW (b4 ops o))=true from by rw [U,ab];rfl,aG];rfl
 rw [key] at he ⊢;simp only [jb] at he ⊢;have wi:∀H,(fp P o).run call (dp r (b4 ops o)) H=a_.of H ((qp P t).run H (.ptr c off)):=by intro H;unfold fp;rw [aT];simp only [ao]
 rw [wi] at he ⊢;rw [aiE mh];exact a_.w0 he H
theorem Tk {es:List e0} {h:ae} {b:aO}:∀{is:List Nat} {p:Nat},BW P ops es h b call aw is p=true->∀q i o t x,is[q]? =some i->ops[i]? =some o->o.op=.load t x->
 ∃e c off aa,es[p+q]? =some e/\(bV x).run (dp e.r (b4 ops o))=.ptr c off/\c≠b/\o.guard=none/\(cB P aw ops o).run call e.r h=.val e.v aa
 | [],_,_,q,i,o,t,x,h,_,_=>by simp at h
 | j::afE,p,ar,q,i,o,t,x,aq,aT,mq=>by
   simp only [BW] at ar;cases q with
   | succ q=>
     cases bC:ops[j]? with
     | none=>rw [bC] at ar;cases ar
     | some aoU=>
       rw [bC] at ar;simp only [apn] at ar;have:=Tk ar.2 q i o t x (by simpa using aq) aT mq;rw [show p + (q+1)=p+1+q from by omega];exact this
   | zero=>
     simp only [apH,apq] at aq;subst aq;rw [aT] at ar;simp only [apn] at ar;have U:=ar.1;rw [mq] at U;simp only at U;rw [aqH];cases he:es[p]? with
     | none=>rw [he] at U;cases U
     | some e=>
       rw [he] at U;simp only at U;cases ao:(bV x).run (dp e.r (b4 ops o))<;>rw [ao] at U<;>simp only at U<;>try (cases U;done)
       rename_i c off;simp only [apn,aqs] at U;cases aG:o.guard with
       | some _=>rw [aG] at U;cases U.2
       | none=>
         rw [aG] at U;simp only at U;have ab:=U.2;cases aD:(cB P aw ops o).run call e.r h with
         | fail=>rw [aD] at ab;cases ab
         | cI _ _=>rw [aD] at ab;cases ab
         | val v aa=>
           rw [aD] at ab;have bA:=Iv ab;exact ⟨e,c,off,aa,rfl,ao,(fun e=>by rw [e,aO.AK] at U;cases U.1),rfl,by rw [aD,bA]⟩
theorem yL {k:Nat}:∀{l:List Nat} {p:Nat},l.Nodup->l[p]? =some k->l.idxOf k=p
 | [],_,_,h=>by simp at h
 | x::xs,p,aV,h=>by
   rw [arz] at aV;cases p with
   | zero=>
     simp only [apH,apq] at h;subst h;simp
   | succ p=>
     have ao:xs[p]? =some k:=by simpa using h
     have cT:x≠k:=fun e=>aV.1 (e ▸ apR ao);rw [List.idxOf_cons];simp only [aq0,cT,apA,show (x == k)=false from by simpa using cT];rw [yL aV.2 ao]
def mA (ops:Array Oper) (i:Nat):Bool:=
 match ops[i]? with
 | some o=>ln o
 | none=>false
theorem E6 {o:Oper} {A:xr} (h:lS o=some A):ln o=true/\e4 P o.op=true/\gD o=false:=by obtain ⟨aT,_,_⟩:=BD h;refine ⟨by unfold ln;rw [aT],by rw [aT];rfl,by unfold gD;rw [aT]⟩
theorem aix {aF:List Nat} {cK cL:Nat} {t:TypeId} (aB:BU P ops aF cK cL t=true):∀i o,ops[i]? =some o->∃cN,(eP [] ops.toList)[i]? =some cN/\mH i o=true/\
 (∀k ok,ops[k]? =some ok->∃mk,(eP [] ops.toList)[k]? =some mk/\ph i cN (b4 ops o) o.dst k mk ok (Nat.blt (posOf aF k) (posOf aF i))=true)/\
 (posOf aF i<cK->ln o=false/\ej P o=false/\(looks o.op=true->e4 P o.op=false->∃t x,o.op=.load t x))/\
 (¬posOf aF i<cK->posOf aF i<cL->∃A,lS o=some A/\A.t=t)/\
 (¬posOf aF i<cK->¬posOf aF i<cL->e4 P o.op=false/\looks o.op=false):=by
 unfold BU at aB;simp only [apn] at aB;replace aB:=aB.2;intro i o ax;obtain ⟨cN,U,ab⟩:=qJ aB i o (by simpa using ax);simp only [apX,apn] at ab;obtain ⟨⟨aI,bq⟩,cF⟩:=ab;refine ⟨cN,U,aI,fun k ok aA=>?_,fun aL=>?_,fun jQ aL=>?_,fun jQ adH=>?_⟩
 . obtain ⟨mk,cm,cz⟩:=qJ bq k ok (by simpa using aA);simp only [apX] at cz;exact ⟨mk,cm,cz⟩
 . rw [show Nat.blt (posOf aF i) cK=true from by rw [apQ];exact aL] at cF;simp only [apt,apn,aqs,aqS] at cF;refine ⟨cF.1.1,cF.1.2,fun ar he=>?_⟩;rcases cF.2 with (h | h) | h
   . rw [ar] at h;cases h
   . rw [he] at h;cases h
   . cases mq:o.op<;>rw [mq] at h<;>simp only at h<;>first
      | (cases h;done)
      | exact ⟨_,_,rfl⟩
 . rw [show Nat.blt (posOf aF i) cK=false from by rw [<-ap1,apQ];exact jQ,show Nat.blt (posOf aF i) cL=true from by rw [apQ];exact aL] at cF;simp only [apt,apA] at cF;cases bw:lS o with
   | none=>rw [bw] at cF;cases cF
   | some A=>rw [bw] at cF;exact ⟨A,rfl,aqj cF⟩
 . rw [show Nat.blt (posOf aF i) cK=false from by rw [<-ap1,apQ];exact jQ,show Nat.blt (posOf aF i) cL=false from by rw [<-ap1,apQ];exact adH] at cF;simp only [apA,apn,aqs] at cF;exact cF
theorem aiy {order:List Nat} {es:List e0} {cK:Nat} {b:aO} {jm:bI} {A:xr} (h:Fg ops order es cK=some (b,jm,A)):
 ∃e i o,es[cK]? =some e/\order[cK]? =some i/\ops[i]? =some o/\lS o=some A/\e.r=jm:=by
 unfold Fg at h;cases he:es[cK]? with
 | none=>rw [he] at h;cases h
 | some e=>
   rw [he] at h;simp only at h;cases ax:order[cK]? with
   | none=>rw [ax] at h;cases h
   | some i=>
     rw [ax] at h;simp only at h;cases aT:ops[i]? with
     | none=>rw [aT] at h;cases h
     | some o=>
       rw [aT] at h;simp only at h;cases bw:lS o with
       | none=>rw [bw] at h;cases h
       | some iY=>
         rw [bw] at h;simp only at h;cases hm:(bV iY.m).run (dp e.r (b4 ops o))<;>rw [hm] at h<;>simp only at h<;>try (cases h;done)
         simp only [apq,aqw] at h;obtain ⟨_,ab,rfl⟩:=h;exact ⟨e,i,o,rfl,rfl,aT,bw,ab⟩
theorem Tv {r:bI} {b:aO} {f:Nat->V × V} (aB:∀i m,k7 ops r b i m->f i=(m.k,m.v)):∀{is:List Nat} {ms:List cb},px (fun i (m:cb)=>∃cZ,k7 ops r b i cZ/\m.k=cZ.k/\m.v=cZ.v) is ms->ms.map (fun m=>(m.k,m.v))=is.map f
 | _,_,.nil=>rfl
 | _,_,.cons (a:=i) (b:=m) aY aE=>by obtain ⟨cZ,U,ab,aI⟩:=aY;simp only [aqt,Tv aB aE,aB i cZ U,ab,aI]
theorem zc {n:Nat} {order aF:List Nat} (hI:lA n order aF=true) {p i:Nat} (h:order[p]? =some i):posOf aF i=p/\i<n:=by unfold lA at hI;simp only [apn,apT] at hI;obtain ⟨_,ab,_,bq⟩:=hI;have:=uW bq h;rw [apX] at this;refine ⟨by unfold posOf;rw [this];rfl,?_⟩;have:=(apL.1 this).1;omega
theorem ajm {l:List Nat} {f:Nat->Nat} (h:∀p i,l[p]? =some i->f i=p):l.Nodup:=by rw [List.Nodup,List.pairwise_iff_getElem];intro i j ax bC o2 he;have U:=h i _ (apo ax);have ab:=h j _ (apo bC);rw [he,ab] at U;omega
theorem px.left {α β:Type} {R:α->β->Prop}:∀{fh:List α} {h1:List β},px R fh h1->∀x ∈ fh,∃y ∈ h1,R x y
 | _,_,.nil,x,h=>by simp at h
 | _,_,.cons aY aE,x,h=>by
   rcases apI.1 h with rfl | h
   . exact ⟨_,by simp,aY⟩
   . obtain ⟨y,U,ab⟩:=aE.left x h;exact ⟨y,by simp [U],ab⟩
theorem afz {o:Oper} (h:ln o=true):e4 P o.op=true/\gD o=false:=by
 unfold ln at h;unfold gD;cases aT:o.op<;>rw [aT] at h<;>simp only at h<;>first
  | (cases h;done)
  | exact ⟨rfl,rfl⟩
theorem amK {pre σ post:List Nat} (o3:(pre++(σ++post)).Nodup) (k q:Nat):(pre[q]? =some k->(pre++(σ++post)).idxOf k=q)/\(σ[q]? =some k->(pre++(σ++post)).idxOf k=pre.length+q)/\(post[q]? =some k->(pre++(σ++post)).idxOf k=pre.length+σ.length+q):=by
 refine ⟨fun h=>yL o3 ?_,fun h=>yL o3 ?_,fun h=>yL o3 ?_⟩
 . have:=(apL.1 h).1;rw [apM this];exact h
 . have:=(apL.1 h).1;rw [apN (by omega),art,apM this];exact h
 . rw [apN (by omega),apN (by omega)];rw [show pre.length+σ.length+q-pre.length-σ.length=q from by omega];exact h
theorem aiA {rd:Option Nat} {D:List Deferred} {az:Fr} {calls:Nat->dR} {es:List e0} {a1:bI} {aY:ae} {c0:bI} {aB:ae} {eC order aF:List Nat} (bK:ep P) (cf:∀i,gJ P (calls i)) (dH:∀i,gV P (calls i))
 (C:Cert P aw ops calls es a1 aY c0 aB eC order aF ops.size ops.size true) {gz:Env} {Q:Exit->Act->World->Prop}
 (cw:∀ay bk w',gz.le ay->RegRel0 ay aw c0 bk->bk.defers=D->ba az ay aB w'->Q .normal bk w') {tQ:List Nat}
 (hG:∀i k,mA ops i=true->mA ops k=true->posOf aF k<posOf aF i->∀a b,tQ=a++i::b->k ∈ a):
 ∀(fuel t:Nat) (listed:Array Bool) (done:List Nat) (a:Act) (w:World),tQ=done++Region.linearise.go .any ops fuel t listed []->(∀k,k<ops.size->(listed.getD k false=true↔k ∈ done))->
  (List.range ops.size).countP (fun i=>!listed.getD i false)<=fuel->qL P az aw ops es a1 aB eC aF gz ops.size D listed a w->wpOpsIn (cc rd) 0 P ops Q (Region.linearise.go .any ops fuel t listed []) a w:=by
 have iD:∀i o,ops[i]? =some o->mH i o=true:=fun i o h=>by obtain ⟨_,_,ab,_⟩:=C.m' i o h;exact ab
 have fin:∀(listed:Array Bool) (a:Act) (w:World),(∀k,k<ops.size->listed.getD k false=true)->qL P az aw ops es a1 aB eC aF gz ops.size D listed a w->Q .normal a w:=by intro listed a w dx I;obtain ⟨ay,g1,g2,g3,g4⟩:=PU C (aps _) I fun k aA _=>dx k aA;exact cw ay a w g1 g2 g3 g4
 intro fuel
 induction fuel with
 | zero=>
   intro t listed done a w sF Jx au I;have aY:(List.range ops.size).countP (fun i=>!listed.getD i false)=0:=by omega
   rw [List.countP_eq_zero] at aY;exact fin listed a w (fun k aA=>by simpa using aY k (aqX.2 aA)) I
 | succ fuel bh=>
   intro t listed done a w sF Jx au I;rw [go_succ] at sF ⊢;cases aD:w7 ops t listed with
   | none=>exact fin listed a w (fun k aA=>zh iD I.s4 (UW aD) k aA) I
   | some i=>
     rw [aD] at sF;simp only at sF ⊢;obtain ⟨i1,i2⟩:=w8 I.s4 (Lx aD);have ar:i<listed.size:=by rw [I.s4];exact i1
     have aok:=count_set I.s4 i1 i2;rw [wpOpsIn_cons];refine P5 bK cf dH C I (Lx aD) (C.iu i i1).1 (fun _ o k ok cx wx EI adY aL=>?_) (fun bk w' GP=>bh _ _ (done++[i]) bk w' (by rw [ap8];exact sF) (fun k aA=>?_) (by omega) GP) (fun _ _ _ _ _ _ _ h=>absurd h (aqP _))
     . have aA:k<ops.size:=(apr.1 EI).1;exact (Jx k aA).2 (hG i k (by unfold mA;rw [cx];exact wx) (by unfold mA;rw [EI];exact adY) aL _ _ sF)
     . rw [fN ar,Jx k aA,aqv,aqa];exact Or.comm
def Is (ops:Array Oper) (r:bI) (b:aO) (i:Nat):V × V:=
 match ops[i]? with
 | some o=>(match uE ops r b o with
   | some m=>(m.k,m.v)
   | none=>(.bad,.bad))
 | none=>(.bad,.bad)
theorem Qd {r:bI} {b:aO} {i:Nat} {m:cb} (h:k7 ops r b i m):Is ops r b i=(m.k,m.v):=by obtain ⟨o,U,ab⟩:=h;unfold Is;rw [U];simp only [ab]
theorem Tw {r:bI} {b:aO}:∀{is:List Nat} {ms:List cb},px (k7 ops r b) is ms->ms.map (fun m=>(m.k,m.v))=is.map (Is ops r b)
 | _,_,.nil=>rfl
 | _,_,.cons aY aE=>by simp only [aqt,Tw aE,Qd aY]
theorem aiB {rd:Option Nat} {az:Fr} {E:Env} {h:ae} {w:World} {id:Nat} (cJ:P.follows .mixedOrders=true) (bK:ep P) (cf:gJ P call) (dH:gV P call) {r:bI} {a:Act} {order aF:List Nat} {cK cL:Nat} (hI:lA ops.size order aF=true)
 {Q:Exit->Act->World->Prop} (ai:nM az E aw (Q .normal) Q (KB P aw ops order aF cK cL (fC P aw ops (hs ops order)) call r h)) (k:fo E aw r a) (s:ba az E h w):(Code.region id ops true).wpIn (cc rd) 0 P Q a w:=by
 unfold KB at ai;cases cS:(fC P aw ops (hs ops order)).run call r h with
 | fail=>rw [cS] at ai;exact ai.elim
 | cI _ _ _ _ _=>rw [cS] at ai;exact ai.elim
 | ok es eG a7=>
 rw [cS] at ai;simp only at ai;cases sN:Fg ops order es cK with
 | none=>rw [sN] at ai;exact ai.elim
 | some x=>
 obtain ⟨b,jm,A⟩:=x;rw [sN] at ai;simp only at ai;cases oY:(ch es a7 cK).get b<;>rw [oY] at ai<;>try (exact False.elim ai)
 rename_i Iw pH;cases Iw with
 | cons _ _=>exact False.elim ai
 | nil=>
 simp only at ai;cases ys:wP ops jm b ((order.drop cK).take (cL-cK)) with
 | none=>rw [ys] at ai;exact ai.elim
 | some ms=>
 rw [ys] at ai;simp only at ai;cases au:(BU P ops aF cK cL A.t&&(Am (uG P A.t) ms&&(BW P ops es (ch es a7 cK) b call aw (order.take cK) 0&&AM ((bV A.m).run eG) (.map b)))) with
 | false=>rw [au] at ai;exact ai.elim
 | true=>
 rw [au] at ai;simp only [apt] at ai;simp only [apn] at au;obtain ⟨yq,Ev,dZ,sO⟩:=au;have sO:=Iv sO;obtain ⟨o4,Ut,aoW⟩:=Uo hI;have JJ:order.Nodup:=ajm fun p i h=>(zc hI h).1;obtain ⟨c4,i0,h4,Ja,wv,aej,AT,adD⟩:=aiy sN;obtain ⟨akQ,-,-,-⟩:=u7 cS;have hlen:es.length=ops.size:=by rw [akQ,qs,o4]
 have jf:cK<ops.size:=by rw [<-o4];exact (apL.1 wv).1
 have m':=aix yq;generalize ry:order.take cK=pre at dZ;generalize wx:(order.drop cK).take (cL-cK)=ins at ys;generalize R0:(order.drop cK).drop (cL-cK)=post;have p_:order=pre++(ins++post):=by rw [<-ry,<-wx,<-R0,aqN,aqN]
 have yx:pre.length=cK:=by rw [<-ry,apU];omega
 have aos:cK<cL:=by
  obtain ⟨gC,_⟩:=zc hI wv;rcases aqJ cK cL with h | h
  . exact h
  . exfalso;obtain ⟨_,_,_,_,_,_,f3⟩:=m' i0 h4 aej;obtain ⟨ao,_⟩:=f3 (by omega) (by omega);rw [(E6 (P:=P) AT).2.1] at ao;cases ao
 have adT:ins.length=cL-cK\/post=[]:=by
  rcases aqJ (cL-cK) (order.drop cK).length with h | h
  . left;rw [<-wx,apU];omega
  . right;rw [<-R0];exact aqf h
 have HF:∀q i,pre[q]? =some i->posOf aF i=q/\i<ops.size/\q<cK:=by intro q i h;have aq:=(apL.1 h).1;obtain ⟨U,ab⟩:=zc hI (p:=q) (i:=i) (by rw [p_,apM aq];exact h);exact ⟨U,ab,by omega⟩
 have HD:∀q i,ins[q]? =some i->posOf aF i=cK+q/\i<ops.size/\cK+q<cL:=by
  intro q i h;have aq:=(apL.1 h).1;obtain ⟨U,ab⟩:=zc hI (p:=cK+q) (i:=i) (by rw [p_,apN (by omega),yx,art,apM aq];exact h);refine ⟨U,ab,?_⟩;have:ins.length<=cL-cK:=by rw [<-wx,apU];omega
  omega
 have HE:∀q i,post[q]? =some i->posOf aF i=cK+ins.length+q/\i<ops.size/\ins.length=cL-cK:=by
  intro q i h;have ar:ins.length=cL-cK:=by
   rcases adT with aa | aa
   . exact aa
   . rw [aa] at h;simp at h
  obtain ⟨U,ab⟩:=zc hI (p:=cK+ins.length+q) (i:=i) (by rw [p_,apN (by omega),apN (by omega),yx,show cK+ins.length+q-cK-ins.length=q from by omega];exact h);exact ⟨U,ab,ar⟩
 have V_:∀i,i<ops.size->(∃q:Nat,pre[q]? =some i)\/(∃q:Nat,ins[q]? =some i)\/∃q:Nat,post[q]? =some i:=by
  intro i ax;have hm:i ∈ order:=apR (Ut i ax).2;rw [p_,aqv,aqv] at hm;rcases hm with h | h | h
  . exact .inl (ap9.1 h)
  . exact .inr (.inl (ap9.1 h))
  . exact .inr (.inr (ap9.1 h))
 have Ll:∀i o,i ∈ pre->ops[i]? =some o->ln o=false/\ej P o=false/\(looks o.op=true->e4 P o.op=false->∃t x,o.op=.load t x):=by intro i o ax aT;obtain ⟨q,aq⟩:=ap9.1 ax;obtain ⟨U,ab,aI⟩:=HF q i aq;obtain ⟨_,_,_,_,f1,_,_⟩:=m' i o aT;exact f1 (by omega)
 have BE:∀i,i ∈ ins->∃o iY,ops[i]? =some o/\lS o=some iY/\iY.t=A.t:=by intro i ax;obtain ⟨q,aq⟩:=ap9.1 ax;obtain ⟨U,ab,aI⟩:=HD q i aq;obtain ⟨_,_,_,_,_,f2,_⟩:=m' i _ (apK ab);obtain ⟨iY,g1,g2⟩:=f2 (by omega) (by omega);exact ⟨_,iY,apK ab,g1,g2⟩
 have Ck:∀i o,i ∈ post->ops[i]? =some o->e4 P o.op=false/\looks o.op=false:=by intro i o ax aT;obtain ⟨q,aq⟩:=ap9.1 ax;obtain ⟨U,ab,aI⟩:=HE q i aq;obtain ⟨_,_,_,_,_,_,f3⟩:=m' i o aT;exact f3 (by omega) (by omega)
 have Kh:∀i,i<ops.size->(mA ops i=true↔i ∈ ins):=by
  intro i ax;have cx:ops[i]? =some ops[i]:=apK ax;constructor
  . intro h;unfold mA at h;rw [cx] at h;simp only at h;rcases V_ i ax with ⟨q,aq⟩ | ⟨q,aq⟩ | ⟨q,aq⟩
    . rw [(Ll i _ (apR aq) cx).1] at h;cases h
    . exact apR aq
    . have:=(Ck i _ (apR aq) cx).1;rw [(afz (P:=P) h).1] at this;cases this
  . intro h;obtain ⟨o,iY,g1,g2,_⟩:=BE i h;unfold mA;rw [g1];exact (E6 (P:=P) g2).1
 have JK:ins.Nodup:=by rw [p_] at JJ;exact (arB.1 (arB.1 JJ).2.1).1
 have Br:=cS;rw [p_,Ca,Ca] at Br;obtain ⟨hE,a',U,abr,wH,R2,rk⟩:=LU _ _ Br;obtain ⟨q',cG,ab,Ix,lQ,aey,aol⟩:=LU _ _ R2;obtain ⟨fh,-,-,-⟩:=u7 wH;rw [qs,yx] at fh;obtain ⟨-,bP,bH,-⟩:=u7 R2;have Rt:abr[0]? =some c4:=by rw [rk,apN (by omega),fh,aq5] at Ja;exact Ja
 have aeA:a'=jm:=by unfold ey at bH;rw [Rt] at bH;exact bH.symm.trans adD
 have adN:ch es a7 cK=U:=by unfold ch at bP ⊢;rw [Ja];rw [Rt] at bP;exact bP
 subst aeA;rw [adN] at oY dZ;have nX:∀i ∈ ins,∃o iY m,ops[i]? =some o/\lS o=some iY/\(BL P iY.t=true/\uG P iY.t=uG P A.t)/\uE ops a' b o=some m/\∃v H1 cE,(cB P aw ops o).run call a' H1=.val v cE:=by
  intro i ax;obtain ⟨o,iY,g1,g2,g3⟩:=BE i ax;obtain ⟨m,_,b_,g4,g5⟩:=(E5 ys).left i ax;rw [g1] at g4;cases g4;refine ⟨o,iY,m,g1,g2,⟨by rw [g3];unfold BU at yq;rw [apn] at yq;exact yq.1,by rw [g3]⟩,g5,Sy (hs ops ins) (fun cy yt=>?_) lQ o ?_⟩
  . obtain ⟨q,aq⟩:=ap9.1 yt;have uw:q<ins.length:=by rw [<-qs (ops:=ops)];exact (apL.1 aq).1
    obtain ⟨og,fa,s0,s3,_⟩:=BE _ (apV uw);have:=nr (apo uw) s0;rw [aq] at this;cases this;exact (BD s3).2.1
  . obtain ⟨q,aq⟩:=ap9.1 ax;exact apR (nr aq g1)
 have Ew:=M7 (E5 ys) JK Ev;obtain ⟨an8,aoL,an0,mK,II,aob,aoc,ab2,_,aod⟩:=Kj nX Ew ins [] [] pH U (fun i ax=>ax) (fun i ax=>by simp at ax) (by simpa using JK) (fun m hm=>by simp at hm) oY;rw [lQ] at II;simp only [qM.ok.injEq] at II;obtain ⟨-,aex,acU⟩:=II;subst aex acU
 obtain ⟨Jo,aew⟩:=UN (hs ops post) (fun cy yt=>by
  obtain ⟨q,aq⟩:=ap9.1 yt;have uw:q<post.length:=by rw [<-qs (ops:=ops)];exact (apL.1 aq).1
  obtain ⟨_,EG,_⟩:=HE q _ (apo uw);have:=nr (apo uw) (apK EG);rw [aq] at this;cases this;exact Ck _ _ (apV uw) (apK EG)) aey
 subst Jo;refine wpIn_region_draw fun t=>?_;simp only [Region.schedule,cJ,Bool.true_or,ap0];have iD:∀i o,ops[i]? =some o->mH i o=true:=fun i o h=>by obtain ⟨_,_,ab,_⟩:=m' i o h;exact ab
 have dC:∀k,¬(Array.replicate ops.size false).getD k false=true:=by
  intro k;rw [ud,Array.getElem?_replicate]
  split<;>simp
 obtain ⟨s1,s2,jn⟩:=QW (ops:=ops) iD ops.size t (Array.replicate ops.size false) (by simp) (aqc ary (by simp));change wpOpsIn (cc rd) 0 P ops Q (Region.linearise.go .any ops ops.size t (Array.replicate ops.size false) []) a {w with drawn:=w.drawn+1};generalize sF:Region.linearise.go .any ops ops.size t (Array.replicate ops.size false) []=tQ at s1 s2 jn;generalize Ke:tQ.filter (mA ops)=σ;have KK:∀k,k ∈ σ↔k ∈ ins:=by
  intro k;rw [<-Ke,aq7];constructor
  . rintro ⟨g1,g2⟩;exact (Kh k (s2 k g1).1).1 g2
  . intro g;obtain ⟨q,aq⟩:=ap9.1 g;have aA:=(HD q k aq).2.1;refine ⟨?_,(Kh k aA).2 g⟩;rcases jn k aA with h | h
    . exact absurd h (dC k)
    . exact h
 have RS:σ.Nodup:=by rw [<-Ke];exact s1.filter _
 have JU:σ.Perm ins:=(List.perm_ext_iff_of_nodup RS JK).2 KK;have Sm:σ.length=ins.length:=JU.length_eq;have lP:(pre++(σ++post)).Perm order:=by rw [p_];exact (JU.append_right post).append_left pre
 have JL:(pre++(σ++post)).Nodup:=lP.nodup_iff.2 JJ;have Bc:(pre++(σ++post)).length=ops.size:=by rw [lP.length_eq,o4]
 have Dt:=amK JL;generalize aep:(List.range ops.size).map (fun k=>(pre++(σ++post)).idxOf k)=k0;have yw:∀k,k<ops.size->posOf k0 k=(pre++(σ++post)).idxOf k:=by intro k aA;rw [<-aep];unfold posOf;rw [aqb,List.getElem?_range aA];rfl
 have Ce:∀i,i<ops.size->i ∈ pre->posOf k0 i=posOf aF i/\posOf aF i<cK:=by intro i ax hm;obtain ⟨q,aq⟩:=ap9.1 hm;obtain ⟨g1,_,g3⟩:=HF q i aq;rw [yw i ax,(Dt i q).1 aq,g1];exact ⟨rfl,g3⟩
 have Cd:∀i,i<ops.size->i ∈ ins->∃q:Nat,σ[q]? =some i/\posOf k0 i=cK+q/\q<ins.length/\cK<=posOf aF i/\posOf aF i<cK+ins.length:=by intro i ax hm;obtain ⟨q,aq⟩:=ap9.1 ((KK i).2 hm);obtain ⟨fk,ij⟩:=ap9.1 hm;obtain ⟨g1,_,g3⟩:=HD fk i ij;have:=(apL.1 aq).1;have:=(apL.1 ij).1;exact ⟨q,aq,by rw [yw i ax,(Dt i q).2.1 aq,yx],by omega,by omega,by omega⟩
 have K_:∀i,i<ops.size->i ∈ post->posOf k0 i=posOf aF i/\cK+ins.length<=posOf aF i:=by intro i ax hm;obtain ⟨q,aq⟩:=ap9.1 hm;obtain ⟨g1,_,_⟩:=HE q i aq;rw [yw i ax,(Dt i q).2.2 aq,g1,Sm,yx];exact ⟨rfl,by omega⟩
 have cls:∀i,i<ops.size->i ∈ pre\/i ∈ ins\/i ∈ post:=by
  intro i ax;rcases V_ i ax with ⟨q,aq⟩ | ⟨q,aq⟩ | ⟨q,aq⟩
  . exact .inl (apR aq)
  . exact .inr (.inl (apR aq))
  . exact .inr (.inr (apR aq))
 obtain ⟨vX,aoM,an1,zV,QO,ab3,ab4,ab5,ab7,ab6⟩:=Kj nX Ew σ [] [] pH U (fun i ax=>(KK i).1 ax) (fun i ax=>by simp at ax) (by simpa using RS) (fun m hm=>by simp at hm) oY;obtain ⟨x4,aez⟩:=aew zV;have R6:=LV _ _ wH (LV _ _ QO aez);rw [<-Ca,<-Ca] at R6;obtain ⟨ahU,-,-,-⟩:=u7 QO;rw [qs,Sm] at ahU;obtain ⟨bU,z2,z3,z4⟩:=u7 R6;rw [qs,Bc] at bU;have Uu:∀k,k<ops.size->posOf k0 k<ops.size/\(pre++(σ++post))[posOf k0 k]? =some k:=by intro k aA;have hm:k ∈ pre++(σ++post):=lP.mem_iff.2 (apR (Ut k aA).2);obtain ⟨q,aq⟩:=ap9.1 hm;have JV:=yL JL aq;rw [yw k aA,JV];have:=(apL.1 aq).1;exact ⟨by omega,aq⟩
 have ake:∀p,p<ops.size->∃i,i<ops.size/\posOf k0 i=p:=by intro p ai;have aq:(pre++(σ++post))[p]? =some ((pre++(σ++post))[p]'(by omega)):=apo _;have hm:(pre++(σ++post))[p]'(by omega) ∈ order:=lP.mem_iff.1 (apV _);obtain ⟨q,n5⟩:=ap9.1 hm;have aL:=(zc hI n5).2;exact ⟨_,aL,by rw [yw _ aL];exact yL JL aq⟩
 have Py:∀j o,ops[j]? =some o->ej P o=true->j ∈ ins:=by
  intro j o aT lk;rcases cls j (apr.1 aT).1 with h | h | h
  . rw [(Ll j o h aT).2.1] at lk;cases lk
  . exact h
  . unfold ej at lk;rw [(Ck j o h aT).1] at lk;cases lk
 have Ki:∀k ok,k ∈ ins->ops[k]? =some ok->ok.dst=none/\ln ok=true:=by intro k ok aA bt;obtain ⟨o,iY,g1,g2,_⟩:=BE k aA;rw [bt] at g1;cases g1;exact ⟨(BD g2).2.1,(E6 (P:=P) g2).1⟩
 have Yc:∀st,st=ops.size\/(∃k,k<ops.size/\k ∈ ins/\st=posOf k0 k)->∀c,b≠c->(ch (hE++(vX++x4)) zV st).get c=U.get c:=by
  rintro st (rfl | ⟨k,aA,gv,rfl⟩) c au
  . unfold ch;rw [apS (by omega)];exact ab4 c au
  . obtain ⟨q,_,g2,g3,_⟩:=Cd k aA gv;have ES:q<vX.length:=by omega
    unfold ch;rw [g2,apN (by omega),fh,art,apM ES,apo ES];exact ab7 _ (apV ES) c au
 have C:Cert P aw ops (fun _=>call) (hE++(vX++x4)) r h eG zV (hL P k0 0 ops.toList) (pre++(σ++post)) k0 ops.size ops.size true:=by
  refine ⟨bU,aps _,aps _,Uu,ake,z2,z3,?_,?_,?_,?_,?_,?_,fun h=>absurd h (aqP _),fun h=>absurd h (aqP _)⟩
  . intro i o aT _;exact z4 _ o (nr (Uu i (apr.1 aT).1).2 aT)
  . intro i o cx;obtain ⟨cN,f1,f2,f3,_⟩:=m' i o cx;refine ⟨cN,f1,f2,fun _ k ok bt _=>?_⟩;obtain ⟨mk,f4,f5⟩:=f3 k ok bt;have ax:i<ops.size:=(apr.1 cx).1;have aA:k<ops.size:=(apr.1 bt).1;refine ⟨mk,f4,?_,fun he lk aL=>?_⟩
    . by_cases gv:k ∈ ins
      . unfold ph;rw [(Ki k ok gv bt).1];simp
      . have ah:Nat.blt (posOf k0 k) (posOf k0 i)=Nat.blt (posOf aF k) (posOf aF i):=by
         rw [aqg,apQ,apQ];rcases cls k aA with au | au | au
         . obtain ⟨bJ,a2⟩:=Ce k aA au;rcases cls i ax with aH | aH | aH
           . obtain ⟨bR,b7⟩:=Ce i ax aH;omega
           . obtain ⟨q,_,b7,eL,ic,jt⟩:=Cd i ax aH;omega
           . obtain ⟨bR,b7⟩:=K_ i ax aH;omega
         . exact absurd au gv
         . obtain ⟨bJ,a2⟩:=K_ k aA au;rcases cls i ax with aH | aH | aH
           . obtain ⟨bR,b7⟩:=Ce i ax aH;omega
           . obtain ⟨q,_,b7,eL,ic,jt⟩:=Cd i ax aH;omega
           . obtain ⟨bR,b7⟩:=K_ i ax aH;omega
        rw [ah];exact f5
    . have gv:=Py k ok bt lk;obtain ⟨aoZ,_,b7,eL,ic,jt⟩:=Cd k aA gv;rcases cls i ax with aH | aH | aH
      . obtain ⟨bJ,a2⟩:=Ce i ax aH;omega
      . exact .inr ⟨rfl,(Ki i o aH cx).2,(Ki k ok gv bt).2⟩
      . rw [(Ck i o aH cx).1] at he;cases he
  . have:=Fe (P:=P) (aF:=k0) (l:=ops.toList) (i:=0);simpa using this
  . intro j o g1 g2;have:=yR (P:=P) (aF:=k0) (i:=0) (j:=j) (l:=ops.toList) (o:=o) (by simpa using g1) g2;simpa using this
  . intro st cD;rcases uL cD with h | ⟨j,o,g1,g2,g3⟩
    . exact .inl (.inl (by simpa using h))
    . exact .inr ⟨j,o,by simpa using g1,g2,by simpa using g3⟩
  . intro j o rp ar he _;have bC:j<ops.size:=(apr.1 rp).1;have nZ:j ∈ pre:=by
     rcases cls j bC with aH | aH | aH
     . exact aH
     . obtain ⟨b_,iY,g1,g2,_⟩:=BE j aH;rw [rp] at g1;cases g1;rw [(E6 (P:=P) g2).2.1] at he;cases he
     . rw [(Ck j o aH rp).2] at ar;cases ar
    obtain ⟨oq,Wi,mq⟩:=(Ll j o nZ rp).2.2 ar he;obtain ⟨q,aq⟩:=ap9.1 nZ;obtain ⟨bJ,_,a3⟩:=HF q j aq;obtain ⟨e,c,off,aa,eR,hc,y3,y4,Mn⟩:=Tk dZ q j o oq Wi aq rp mq;have adx:(hE++(vX++x4))[posOf k0 j]? =some e:=by rw [(Ce j bC nZ).1,bJ,apM (by omega)];rw [apX,rk,apM (by omega)] at eR;exact eR
    refine ⟨e,adx,fun st cD _=>⟨call,_,⟨cf,dH⟩,aa0 mq y4 Mn hc _ (Yc st ?_ c fun h=>y3 h.symm)⟩⟩;rcases uL cD with h | ⟨bp,b_,g1,g2,g3⟩
    . exact .inl (by simpa using h)
    . have EP:ops[bp]? =some b_:=by simpa using g1
      exact .inr ⟨bp,(apr.1 EP).1,Py bp b_ EP g2,by simpa using g3⟩
 have kI:∀(ay:Env) (bk:Act),E.le ay->bk.defers=a.defers->∀(bb:bI),T.get .bad eU bb=T.get .bad eU r->lE ay (T.get .bad eU bb) bk.defers:=fun ay bk he aH bb sQ=>by rw [sQ,aH];exact k.defers.mono he
 have EB:T.get .bad eU eG=T.get .bad eU r:=by have:=C.Ih ops.size (aps _);have JN:(hE++(vX++x4))[ops.size]? =none:=apS (by omega);unfold ey at this;rw [JN] at this;exact this
 have kc:Holds az az (hE++(vX++x4)) zV k0 (j3 ops (hE++(vX++x4)) zV k0 (Array.replicate ops.size false) 0):=
  ⟨rfl,fun _ _=>rfl,fun k aA=>(by obtain ⟨_,_,_,_,aY⟩:=aA;omega),fun k bp aA=>(by obtain ⟨_,_,_,_,aY⟩:=aA;omega)⟩
 obtain ⟨gy,dA,g1,g2,g3,g4,g5,g6⟩:=C.advance ops.size 0 (by omega) (fun k o _ _ _=>dC k) az kc (E:=E) (w:={w with drawn:=w.drawn}) (by rw [C.aY];exact s.same rfl rfl rfl rfl);rw [<-sF];refine aiA (az:=az) bK (fun _=>cf) (fun _=>dH) C (gz:=E) (D:=a.defers) (tQ:=tQ) (fun ay bk w' aj an aJ bE=>?_) (fun i k ax aA aL bk bO ac4=>?_) ops.size t _ [] a _ (by rw [sF];rfl) (fun k _=>⟨fun h=>absurd h (dC k),fun h=>by simp at h⟩) (aqc ary (by simp)) ?_
 . refine ai ay bk w' aj ⟨an,kI ay bk aj aJ eG EB⟩ ?_;have mv:=dB an A.m;rw [sO] at mv;simp only [Rel] at mv;obtain ⟨p,acQ,_⟩:=mv;rw [ab2,<-ab5];refine bE.forget ab3 acQ ?_;rw [aql,Tw (E5 ys),Tv (fun i m h=>Qd h) ab6];exact JU.symm.map _
 . have nY:i<ops.size:=by
    unfold mA at ax;cases aT:ops[i]? with
    | none=>rw [aT] at ax;cases ax
    | some o=>exact (apr.1 aT).1
   have uu:k<ops.size:=by
    unfold mA at aA;cases aT:ops[k]? with
    | none=>rw [aT] at aA;cases aA
    | some o=>exact (apr.1 aT).1
   have gv:=(Kh k uu).1 aA;have Sl:σ=bk.filter (mA ops)++i::bO.filter (mA ops):=by rw [<-Ke,ac4,List.filter_append,List.filter_cons_of_pos ax]
   have jT:posOf k0 i=cK + (bk.filter (mA ops)).length:=by rw [yw i nY,(Dt i (bk.filter (mA ops)).length).2.1 (by rw [Sl,apN (aps _),aq5];rfl),yx]
   obtain ⟨q,aq,ER,_⟩:=Cd k uu gv;have uw:q < (bk.filter (mA ops)).length:=by omega
   rw [Sl,apM uw] at aq;exact (aq7.1 (apR aq)).1
 . refine ⟨by simp,k.size,rfl,fun bp aA=>absurd aA (dC bp),fun bp o e aA=>absurd aA (dC bp),E,gy,dA,Env.le.refl E,g1,g3,fun bp o U ab=>⟨fun h=>absurd h (dC bp),fun h=>by have:=g4 bp o U ab (aqL _);omega⟩,
    fun bp o _ _ h=>absurd h (dC bp),g5,?_,fun t aE=>.inr ⟨fun bp o aA=>absurd aA (dC bp),k.ak t aE⟩⟩
   exact g6.same rfl rfl rfl rfl
theorem aa3 {rd:Option Nat} {az:Fr} {E:Env} {h:ae} {w:World} {id:Nat} (cJ:P.follows .mixedOrders=true) (bK:ep P) (cf:gJ P call) (dH:gV P call) {r:bI} {a:Act}
 {Q:Exit->Act->World->Prop} (ai:nM az E aw (Q .normal) Q ((Ic P aw ops).run call r h)) (k:fo E aw r a) (s:ba az E h w):(Code.region id ops true).wpIn (cc rd) 0 P Q a w:=by
 unfold Ic at ai;generalize uS P ops=order at ai;generalize zd order 0 ops.toList=aF at ai;unfold P3 at ai;cases aB:(lA ops.size order aF&&vS P ops aF) with
 | false=>
   rw [aB] at ai;simp only [apA] at ai;cases jy:(lA ops.size order aF&&Cx P ops order aF) with
   | false=>
     rw [jy] at ai;simp only [apA] at ai;cases Jh:lA ops.size order aF with
     | false=>rw [Jh] at ai;exact ai.elim
     | true=>
       rw [Jh] at ai;simp only [apt] at ai;exact aiB cJ bK cf dH Jh ai k s
   | true=>
     rw [jy] at ai;simp only [apt] at ai;simp only [apn] at jy;exact aa4 cJ bK cf dH jy.1 jy.2 ai k s
 | true=>
   rw [aB] at ai;simp only [apt] at ai;simp only [apn] at aB;obtain ⟨hI,hi⟩:=aB;unfold lA at hI;simp only [apn,apT] at hI;obtain ⟨o4,yt,Bh,Bi⟩:=hI;have iu:∀k,k<ops.size->posOf aF k<ops.size/\order[posOf aF k]? =some k:=by
    intro k aA;have aG:aF[k]? =some (posOf aF k):=by unfold posOf;rw [apo (by omega)];rfl
    have:=uW Bh aG;rw [apX] at this;exact ⟨by have:=(apL.1 this).1;omega,this⟩
   have ly:∀p,p<ops.size->∃i,i<ops.size/\posOf aF i=p:=by intro p ai;have aG:order[p]? =some (order[p]'(by omega)):=apo (by omega);have:=uW Bi aG;rw [apX] at this;refine ⟨order[p]'(by omega),by have:=(apL.1 this).1;omega,?_⟩;unfold posOf;rw [this];rfl
   have LS:∀j o,ops[j]? =some o->ej P o=true->posOf aF j ∈ hL P aF 0 ops.toList:=fun j o U ab=>by simpa using yR (aF:=aF) (i:=0) (j:=j) (l:=ops.toList) (by simpa using U) ab
   have amd:ops.size ∈ hL P aF 0 ops.toList:=by simpa using Fe (P:=P) (aF:=aF) (l:=ops.toList) (i:=0)
   have VG:∀N M,∀s ∈ hL P aF 0 ops.toList,(s=ops.size\/(s=N/\M=N))\/∃k o,ops[k]? =some o/\ej P o=true/\s=posOf aF k:=fun N M s aW=>by
    rcases uL aW with h | ⟨j,o,U,ab,aI⟩
    . exact .inl (.inl (by simpa using h))
    . exact .inr ⟨j,o,by simpa using U,ab,by simpa using aI⟩
   have Rv:∀i o,ops[i]? =some o->∃cN,(eP [] ops.toList)[i]? =some cN/\mH i o=true/\(posOf aF i<ops.size->
    ∀k ok,ops[k]? =some ok->posOf aF k<ops.size->∃mk,(eP [] ops.toList)[k]? =some mk/\ph i cN (b4 ops o) o.dst k mk ok (Nat.blt (posOf aF k) (posOf aF i))=true/\(e4 P o.op=true->ej P ok=true->posOf aF k<posOf aF i->fR cN k=true\/(false=true/\ln o=true/\ln ok=true))):=by
    intro i o ax;obtain ⟨cN,g1,g2,g3⟩:=P2 hi i o ax
    exact ⟨cN,g1,g2,fun _ k ok aA _=>by
     obtain ⟨mk,eR,hc,y3⟩:=g3 k ok aA
     exact ⟨mk,eR,hc,fun a b c=>.inl (y3 a b c)⟩⟩
   have main:∀(q:CJ),
    (∀es o0 N,es.length=N->N<=ops.size->(∀i o,ops[i]? =some o->posOf aF i<N->∃e,es[posOf aF i]? =some e/\(cB P aw ops o).run call e.r e.h=.val e.v (ch es o0 (posOf aF i+1)))->
      (N<ops.size->∃i0 h4,ops[i0]? =some h4/\posOf aF i0=N/\ej P h4=true)->q.run call es o0=true->∀j o,ops[j]? =some o->looks o.op=true->e4 P o.op=false->posOf aF j<N->∃e,es[posOf aF j]? =some e/\∀s ∈ hL P aF 0 ops.toList,
      s6 P (eP [] ops.toList) ops.toList aF j (((eP [] ops.toList)[j]?).getD 0) s=true->∃aa,(cB P aw ops o).run call e.r (ch es o0 s)=.val e.v aa)->
    nM az E aw (Q .normal) Q (DT ops order aF (fC P aw ops (hs ops order)) q call r h)->(Code.region id ops true).wpIn (cc rd) 0 P Q a w:=by
    intro q ui cS;unfold DT at cS;cases cD:(fC P aw ops (hs ops order)).run call r h with
    | fail=>rw [cD] at cS;exact cS.elim
    | ok es eG a7=>
      rw [cD] at cS;simp only at cS;cases aq:q.run call es a7 with
      | false=>rw [aq] at cS;exact cS.elim
      | true=>
        rw [aq] at cS;simp only [apt] at cS;obtain ⟨aj,an,aJ,bE⟩:=u7 cD;have hlen:es.length=ops.size:=by rw [aj,qs,o4]
        have hY:∀i o,ops[i]? =some o->posOf aF i<ops.size->∃e,es[posOf aF i]? =some e/\(cB P aw ops o).run call e.r e.h=.val e.v (ch es a7 (posOf aF i+1))/\ey es eG (posOf aF i+1)=(fI o.dst).run e.r e.v:=
         fun i o aT _=>bE _ o (nr (iu i (apr.1 aT).1).2 aT)
        have C:Cert P aw ops (fun _=>call) es r h eG a7 (hL P aF 0 ops.toList) order aF ops.size ops.size false:=
         ⟨hlen,aps _,aps _,iu,ly,an,aJ,hY,Rv,amd,LS,VG _ _,
           fun j o U ab aI bq=>by obtain ⟨e,g1,g2⟩:=ui es a7 _ hlen (aps _) (fun i o aT ax=>by obtain ⟨e,bU,z2,_⟩:=hY i o aT ax;exact ⟨e,bU,z2⟩) (fun h=>by omega) aq j o U ab aI bq;exact ⟨e,g1,fun s aW hm=>by obtain ⟨aa,g3⟩:=g2 s aW hm;exact ⟨_,aa,⟨cf,dH⟩,g3⟩⟩,
           fun h=>absurd h (aqP _),fun h=>absurd h (aqP _)⟩
        exact Ig cJ bK cf dH k s C (fun _=>cS) (fun _ _ _ _ _ _ _ h=>absurd h (aqP _)) (fun h=>absurd h (aqP _))
    | cI es eG a7 v aa=>
      rw [cD] at cS;simp only at cS;cases aq:(La ops order aF es.length&&q.run call es a7) with
      | false=>rw [aq] at cS;exact cS.elim
      | true=>
        rw [aq] at cS;simp only [apt] at cS;simp only [apn] at aq;obtain ⟨wF,aq⟩:=aq;obtain ⟨an,aJ,bE,h4,cO,en,hO⟩:=VI cD;have aL:es.length<ops.size:=by have:=(apL.1 cO).1;rw [qs,o4] at this;exact this
        obtain ⟨i0,wv,jT⟩:=ly es.length aL;have cx:ops[i0]? =some ops[i0]:=apK wv;have p_:=(iu i0 wv).2;rw [jT] at p_;have aeh:h4=ops[i0]:=by have:=nr p_ cx;rw [cO] at this;cases this;rfl
        subst aeh;unfold La at wF;rw [p_] at wF;simp only at wF;obtain ⟨m0,RL,_⟩:=qJ wF i0 ops[i0] (by simp);have Si:∀k ok,ops[k]? =some ok->∃mk,(eP [] ops.toList)[k]? =some mk/\(es.length<posOf aF k->fR mk i0=true)/\(gD ok=true->posOf aF k<es.length->fR m0 k=true):=by
         intro k ok aA;obtain ⟨mk,bU,z2⟩:=qJ wF k ok (by simpa using aA);simp only [apX,apn] at z2;refine ⟨mk,bU,fun aG=>?_,fun bw ar=>?_⟩
         . have:=z2.1;rw [show Nat.blt es.length (posOf aF k)=true from by rw [apQ];exact aG] at this;exact this
         . have:=z2.2;rw [bw,show Nat.blt (posOf aF k) es.length=true from by rw [apQ];exact ar,RL] at this;exact this
        have yj:ej P ops[i0]=true:=by obtain ⟨bQ,b2⟩:=Tx (P:=P) en;unfold ej;rw [bQ,b2];rfl
        have hY:∀i o,ops[i]? =some o->posOf aF i<es.length->∃e,es[posOf aF i]? =some e/\(cB P aw ops o).run call e.r e.h=.val e.v (ch es a7 (posOf aF i+1))/\ey es eG (posOf aF i+1)=(fI o.dst).run e.r e.v:=
         fun i o aT ar=>bE _ o ar (nr (iu i (apr.1 aT).1).2 aT)
        have C:Cert P aw ops (fun _=>call) es r h eG a7 (hL P aF 0 ops.toList) order aF es.length ops.size false:=
         ⟨rfl,Nat.le_of_lt aL,Nat.le_of_lt aL,iu,ly,an,aJ,hY,Rv,by rw [<-jT];exact LS i0 _ cx yj,LS,VG _ _,
           fun j o U ab aI bq=>by obtain ⟨e,g1,g2⟩:=ui es a7 _ rfl (Nat.le_of_lt aL) (fun i o aT ax=>by obtain ⟨e,bU,z2,_⟩:=hY i o aT ax;exact ⟨e,bU,z2⟩) (fun _=>⟨i0,_,cx,jT,yj⟩) aq j o U ab aI bq;exact ⟨e,g1,fun s aW hm=>by obtain ⟨aa,g3⟩:=g2 s aW hm;exact ⟨_,aa,⟨cf,dH⟩,g3⟩⟩,
           fun h=>absurd h (aqP _),fun _ _=>⟨i0,_,m0,cx,jT,en,RL,fun k ok mk aA aG Be=>by
            obtain ⟨mk',bU,z2,_⟩:=Si k ok aA;rw [Be] at bU;cases bU;exact z2 aG,fun k ok aA bw ar=>by
            obtain ⟨mk',bU,_,z3⟩:=Si k ok aA;exact z3 bw ar,v,aa,hO⟩⟩
        refine Ig cJ bK cf dH k s C (fun h=>absurd h (by omega)) (fun ay bk w' x v1 U g1 _ _ g3 g4 g5 g6=>?_) (fun h=>absurd h (aqP _));obtain ⟨i1,c8,bU,z2,z3⟩:=g3;have:i1=i0:=C.w4 (apr.1 bU).1 wv (by rw [z2,jT]);subst this;rw [cx] at bU;cases bU;rw [hO] at z3;cases z3;exact cS ay bk w' x g1 g4 g5 g6
   cases ar:sk P ops.toList with
   | false=>
     rw [ar] at ai;have none:∀(l:List Oper),sk P l=false->∀(j:Nat) (o:Oper),l[j]? =some o->e4 P o.op=false:=by
      intro l
      induction l with
      | nil=>intro _ j o h;simp at h
      | cons x l bh=>
        intro h j o aT;simp only [sk,aro] at h;cases j with
        | zero=>simp only [apH,apq] at aT;subst aT;exact h.1
        | succ j=>exact bh h.2 j o (by simpa using aT)
     refine main _ (fun es o0 N hlen hle hY R' _ j o aT dZ aq A_=>?_) ai;have IY:N=ops.size:=by
      rcases aqJ N ops.size with aL | jQ
      . obtain ⟨i0,h4,bU,z2,z3⟩:=R' aL;have:=none _ ar i0 h4 (by simpa using bU);unfold ej at z3;rw [this] at z3;cases z3
      . omega
     obtain ⟨e,cg,ck⟩:=hY j o aT A_;refine ⟨e,cg,fun s aW _=>?_⟩;have jA:s=ops.size:=by
      rcases uL aW with h | ⟨E8,b_,U,ab,aI⟩
      . simpa using h
      . have:=none _ ar E8 b_ U;unfold ej at ab;rw [this] at ab;cases ab
     have flat:∀d,d<=ops.size->ch es o0 d=ch es o0 0:=by
      intro d
      induction d with
      | zero=>intro _;rfl
      | succ d bh=>
        intro aH;obtain ⟨i,ur,nY⟩:=ly d (by omega);have cx:ops[i]? =some ops[i]:=apK ur;obtain ⟨abf,bP,bH⟩:=hY i ops[i] cx (by omega);rw [nY] at bP bH;have cT:e4 P ops[i].op=false:=none _ ar i _ (by simp);rw [(vR cT bH).1,<-bh (by omega)];simp [ch,bP]
     have:e.h=ch es o0 s:=by rw [jA,flat ops.size (aps _),<-flat (posOf aF j) (by omega)];simp [ch,cg]
     rw [<-this];exact ⟨_,ck⟩
   | true=>
     rw [ar] at ai;refine main _ (fun es o0 N hlen hle hY R' JV j o aT dZ aq A_=>?_) ai;obtain ⟨e,cg,_⟩:=hY j o aT A_;have:=HC JV j o (by simpa using aT) dZ aq e (by simpa using cg);exact ⟨e,cg,by simpa using this⟩
end
def toExit:cP->Exit
 | .normal=>.normal
 | .exit id=>.exit id
 | .ret=>.ret
def W' (C:Ctx):Prop:=
 ∀f p args h v aa,C.Lm f=some p->p.run args h=.val v aa->(∃fn,C.P.funcs[f]? =some fn/\fn.body.isSome=true)/\∀(az:Fr) E w xs,bg E args xs->ba az E h w->
  Calls C.P f xs.toArray w fun e w'=>∃ay x,e=.returned x/\E.le ay/\Rel ay v x/\ba az ay aa w'
def Wz (C:Ctx):Prop:=
 ∀f p args h v aa,C.ext f=some p->p.run args h=.val v aa->∀(az:Fr) E w xs,bg E args xs->ba az E h w->
  ∃ay x w',(callFunc f xs.toArray).run C.P w=.ok (.value x) w'/\E.le ay/\Rel ay v x/\ba az ay aa w'
def pA (C:Ctx):Prop:=W' C/\Wz C
theorem pS {P:Program} {rd:Option Nat} (m:Machine):m.fenced P (cc rd):=fenced_wide P m
def CH (rd:Option Nat) (P:Program) (c:Code) (Q:Exit->Act->World->Prop) (a:Act) (w:World):Prop:=
 match c with
 | .loop x=>∀(b:Frame) (k:List Item) (cs:List Frame),b.roundOf=rd->∃e bk w',Q e bk w'/\ArrivesIn (Machine.fenced P (cc rd)) P (lone (b.atR a (.code x::.inLoop x::k)) cs w) b k cs e bk w'
 | c=>c.wpIn (cc rd) 0 P Q a w
theorem CH.wp {rd:Option Nat} {P:Program} {c:Code} {Q:Exit->Act->World->Prop} {a:Act} {w:World} (h:CH rd P c Q a w):c.wpIn (cc rd) 0 P Q a w:=by
 cases c with
 | loop x=>
   intro b k cs kf _ _;obtain ⟨e,bk,w',q,r⟩:=h b k cs kf;exact ⟨e,bk,w',q,.of_steps (.one (pS _) stepR_loop) r⟩
 | _=>exact h
def xH (az:Fr) (E:Env) (aw:Nat) (Q:Exit->Act->World->Prop):l7->Prop
 | .ok e r h=>∀ay bk w',E.le ay->fo ay aw r bk->ba az ay h w'->Q (toExit e) bk w'
 | .cI v r h=>∀ay bk w' x,E.le ay->fo ay aw r bk->Rel ay v x->ba az ay h w'->Q (.panic (qu x)) bk w'
 | .fail=>False
theorem xH.up {az:Fr} {E ay:Env} (h:E.le ay) {aw:Nat} {Q:Exit->Act->World->Prop} {x:l7} (k:xH az E aw Q x):xH az ay aw Q x:=by
 cases x with
 | ok e r a7=>exact fun bM a w ab=>k bM a w (h.trans ab)
 | cI v r a7=>exact fun bM a w x ab=>k bM a w x (h.trans ab)
 | fail=>exact k
def My (P:Program) (aw:Nat) (c:Code) (run:bI->ae->l7):Prop:=
 ∀(rd:Option Nat) (az:Fr) r h,(rd=none\/noMark c=true)->∀E a w,fo E aw r a->ba az E h w->∀Q:Exit->Act->World->Prop,xH az E aw Q (run r h)->CH rd P c Q a w
def tE (P:Program) (ex:h_):Prop:=∀aw c,My P aw c (ex aw c)
def w9 (tmps:Array Value):ResultVar->Sem Value
 | .tmp t=>pure (tmps.getD t undef)
 | .cell b t=>do loadVar t (<-asAddr (tmps.getD b undef))
theorem LB {P:Program} {az:Fr} {E:Env} {aw:Nat} {r:bI} {h:ae} {a:Act} {w:World} (k:RegRel0 E aw r a) (s:ba az E h w):∀{l:List ResultVar} {af:List V},(k2 P aw l).run r h=some af->
 ∃xs,bg E af xs/\(l.mapM (w9 a.tmps)).run P w=.ok xs w
 | [],af,he=>by simp only [k2,apq] at he;subst he;exact ⟨[],rfl,rfl⟩
 | .tmp t::l,af,he=>by
   simp only [k2] at he;cases au:(Nat.ble t top&&Nat.blt t aw) with
   | false=>rw [au] at he;cases he
   | true=>
     rw [au] at he;simp only [apt] at he;simp only [apn,apF] at au;cases aD:(k2 P aw l).run r h with
     | none=>rw [aD] at he;cases he
     | some us=>
       rw [aD] at he;simp only [apq] at he;subst he;obtain ⟨xs,U,ab⟩:=LB k s aD;refine ⟨_::xs,by simp only [bg];exact ⟨_,_,rfl,k.ak t au.1,U⟩,?_⟩;rw [List.mapM_cons,Sem.run_bind];simp only [w9,Sem.run_pure,Result.andThen_ok,Sem.run_bind,ab]
 | .cell b t::l,af,he=>by
   simp only [k2] at he;cases au:(Nat.ble b top&&Nat.blt b aw) with
   | false=>rw [au] at he;cases he
   | true=>
     rw [au] at he;simp only [apt] at he;simp only [apn,apF] at au;cases bA:(qp P t).run h (T.get .bad (aC b) r) with
     | none=>rw [bA] at he;cases he
     | some v=>
       rw [bA] at he;simp only at he;cases aD:(k2 P aw l).run r h with
       | none=>rw [aD] at he;cases he
       | some us=>
         rw [aD] at he;simp only [apq] at he;subst he;obtain ⟨xs,U,ab⟩:=LB k s aD;obtain ⟨Y,_,cR,A,na,fw⟩:=Tj (P:=P) s (k.ak b au.1) bA;refine ⟨Y::xs,by simp only [bg];exact ⟨_,_,rfl,cR,U⟩,?_⟩;rw [List.mapM_cons,Sem.run_bind];simp only [w9,na,asAddr,Sem.run_bind,Sem.run_pure,Result.andThen_ok,fw,ab]
theorem Nb:∀(args:List V) (i:Nat) (t:bI) (j:Nat),i+args.length<=top+1->j<=top->
 T.get .bad (aC j) (mR i args t)=if i<=j/\j<i+args.length then (args[j-i]?).getD .bad else T.get .bad (aC j) t
 | [],i,t,j,_,_=>by
   have:¬(i<=j/\j<i):=by omega
   simp [mR,this]
 | v::af,i,t,j,h,bC=>by
   simp only [apz] at h ⊢;rw [mR,Nb af _ _ _ (by omega) bC];by_cases U:i+1<=j/\j<i+1+af.length
   . rw [apB U,apB (by omega)];have:j-i=(j - (i+1))+1:=by omega
     rw [this,aqq]
   . rw [apu U,T.ie];by_cases ab:j=i
     . subst ab;rw [apB rfl,apB (by omega)];simp
     . rw [apu (fun e=>ab (h7 e).symm),apu (by omega)]
theorem ajM {E:Env} {af:List V} {xs:List Value} (h:bg E af xs) (fn:Func) (a:Act) (P:Program) (w:World)
 (aD:(fn.results.toList.mapM (w9 a.tmps)).run P w=.ok xs w):∃x,(results fn a.tmps).run P w=.ok x w/\Rel E (oneOf af) x:=by
 have sN:(fn.results.mapM (w9 a.tmps)).run P w=.ok xs.toArray w:=by rw [Array.mapM_eq_mapM_toList,Sem.run_map,aD];rfl
 have I_:results fn a.tmps=(do
  let af <-fn.results.mapM (w9 a.tmps)
  pure (if h:af.size=1 then af[0] else .tuple af)):=by
  unfold results
  have:(fun x=>match x with
   | ResultVar.tmp t=>(pure (a.tmps.getD t undef):Sem Value)
   | ResultVar.cell b t=>do loadVar t (<-asAddr (a.tmps.getD b undef)))=w9 a.tmps:=by
   funext x;cases x<;>rfl
  rw [<-this];rfl
 have yy:(results fn a.tmps).run P w=.ok (if h:xs.toArray.size=1 then xs.toArray[0] else .tuple xs.toArray) w:=by rw [I_,Sem.run_bind,sN];rfl
 refine ⟨_,yy,?_⟩
 match af,h with
 | [],h=>
   simp only [bg] at h;subst h;simp only [oneOf,Rel];exact ⟨#[],rfl,rfl⟩
 | [v],h=>
   simp only [bg] at h;obtain ⟨y,cu,rfl,a8,rfl⟩:=h;simpa [oneOf] using a8
 | v::u::af,h=>
   have ar:=h.length;have cT:¬xs.toArray.size=1:=by simp at ar ⊢;omega
   rw [dif_neg cT];simp only [oneOf,Rel];exact ⟨_,rfl,by simpa using h⟩
section
variable {C:Ctx}
theorem Na:∀(args:List V) (i:Nat) (t:bI),i+args.length<=top+1->T.get .bad eU (mR i args t)=T.get .bad eU t
 | [],_,_,_=>rfl
 | v::af,i,t,h=>by simp only [apz] at h;simp only [mR];rw [Na af (i+1) _ (by omega),T.ie,apu (w1 (by omega))]
theorem Qe {E:Env} {aw:Nat} {args:List V} {xs:List Value} (ar:bg E args xs) (lL:args.length<=aw) (fr:aw<=top):
 fo E aw (mR 0 args .e) {tmps:=xs.toArray++Array.replicate (aw-xs.toArray.size) undef,defers:=[]}:=by
 have hlen:=ar.length;refine ⟨⟨by simp;omega,fun t aE=>?_⟩,?_⟩
 . rw [Nb _ _ _ _ (by omega) aE];by_cases aL:t<args.length
   . rw [apB (by omega),arD,apo aL];obtain ⟨y,a8,cR⟩:=ar.get t args[t] (apo aL);simp only [aqe];have:(xs.toArray++Array.replicate (aw-xs.toArray.size) undef).getD t undef=y:=by
      rw [apO,ara (by simp;omega)];simp [a8]
     rw [this];exact cR
   . rw [apu (by omega)];simp [Rel]
 . rw [Na _ _ _ (by omega)];simp [lE]
def k9 (E:Env) (u:Option V) (m:FrameMode):Prop:=
 match u with
 | none=>m=.returning
 | some v=>∃x,Rel E v x/\m=.panicking (qu x)
theorem k9.mono {E ay:Env} (h:E.le ay) {u:Option V} {m:FrameMode} (k:k9 E u m):k9 ay u m:=by
 cases u with
 | none=>exact k
 | some v=>obtain ⟨x,U,ab⟩:=k;exact ⟨x,Rel.mono h _ _ U,ab⟩
theorem k9.settle {E:Env} {u:Option V} {m:FrameMode} (k:k9 E u m):settle m=m:=by
 cases u with
 | none=>simp only [k9] at k;subst k;rfl
 | some v=>obtain ⟨x,U,rfl⟩:=k;rfl
theorem k9.run {E:Env} {u:Option V} {m:FrameMode} (k:k9 E u m):m≠.run:=by
 cases u with
 | none=>simp only [k9] at k;subst k;simp
 | some v=>obtain ⟨x,U,rfl⟩:=k;simp
def zP (P:Program) (kA:vf):Prop:=
 ∀f args u h e7 aa,kA f args u h=.go e7 aa->(∃fn,P.funcs[f]? =some fn/\fn.body.isSome=true)/\
  ∀(az:Fr) E w xs m,bg E args xs->k9 E u m->ba az E h w->CallsDIn (cc none) 0 P f xs.toArray m w fun e cZ w'=>∃ay x,e=.returned x/\E.le ay/\k9 ay e7 (settle cZ)/\ba az ay aa w'
theorem ba.gone {az:Fr} {E:Env} {h:ae} {w w':World} (s:ba az E h w) {b:aO} {p:js} (iR:(h.get b).own=true) (ai:E b=some p) (cC:az.w.heap.size<=p.aS)
 (aL:w.heap.size<=w'.heap.size) (nf:∀j,j≠p.aS->w'.heap[j]? =w.heap[j]?) (o5:w'.os=w.os) (aE:w'.tape=w.tape) (aT:w'.output=w.output):ba az E (h.set b .dead) w':=
 s.set iR ai cC aL nf o5 aE aT (fun _ _ _ e=>by cases e) trivial
theorem Kx {P:Program} {kA:vf} (bK:ep P) (kI:zP P kA) {az:Fr} {fn:Func} {tmps:Array Value} {R:Ending->World->Prop}:∀(af:List V) (ds:List Deferred) (E:Env) (u:Option V) (h:ae) (w:World) (m:FrameMode) (e7:Option V) (aa:ae),
 mD kA af u h=.go e7 aa->nF E af ds->k9 E u m->ba az E h w->(∀ay cZ w',E.le ay->k9 ay e7 cZ->ba az ay aa w'->LeavesInM (cc none) 0 P fn tmps R [] cZ w')->LeavesInM (cc none) 0 P fn tmps R ds m w
 | [],ds,E,u,h,w,m,e7,aa,he,aH,hu,s,cR=>by simp only [mD,tM.go.injEq] at he;obtain ⟨rfl,rfl⟩:=he;simp only [nF] at aH;subst aH;exact cR E m w (Env.le.refl E) hu s
 | v::af,ds,E,u,h,w,m,e7,aa,he,aH,hu,s,cR=>by
   obtain ⟨d,nR,rfl,Ey,Ez⟩:=aH;cases v with
   | func f args=>
     simp only [mD] at he;cases au:kA f args u h with
     | fail=>rw [au] at he;cases he
     | go Gx U=>
       rw [au] at he;simp only at he;obtain ⟨aB,cap,aE,ar⟩:=Ey;obtain ⟨⟨abT,ig,ah⟩,cf⟩:=kI _ _ _ _ _ _ au;refine ⟨hu.run,.inr ⟨fun h=>by simp at h,_,cap,f,d.args++cap,aE,?_,fun _ _=>trivial,?_⟩⟩
       . rw [aE];simp only [invoke];exact u4 bK ig ah _ w
       . have e:d.args++cap=(d.args.toList++cap.toList).toArray:=by apply arc;simp
         rw [e];refine CallsDIn.mono (cf az E w _ m ar hu s) fun e m1 bP aq=>?_;obtain ⟨gK,x,rfl,aj,an,aJ⟩:=aq;exact Kx bK kI af nR gK Gx U bP (settle m1) e7 aa he (Ez.mono aj) an aJ fun bM m2 bH cg ck ek=>cR bM m2 bH (aj.trans cg) ck ek
   | ptr b off=>
     simp only [mD] at he;cases aG:h.get b<;>rw [aG] at he<;>simp only at he<;>try (cases he;done)
     obtain ⟨p,ai,adn⟩:=Ey;have ah:=s.at ai;rw [aG] at ah;obtain ⟨p',hn,cC,a7⟩:=ah;rw [ai] at hn;cases hn;have kN:=(apr.1 a7).1
     let bP:World:={w with heap:=w.heap.setIfInBounds p.aS (.deferred none)}
     have aeP:(Instr.takeDeferred p.aS).run P w=.ok [] bP:=by
      have eN:(getObj p.aS).run P w=.ok (.deferred (some [])) w:=by simp only [getObj,Sem.run,a7]
      have qf:(setObj p.aS (.deferred none)).run P w=.ok () bP:=by simp only [setObj,Sem.run,a7];rfl
      simp only [Instr.takeDeferred,Sem.run_bind,eN,Result.andThen_ok,qf,Sem.run_pure]
     have s1:ba az E (h.set b .dead) bP:=s.gone (by rw [aG];rfl) ai cC (by simp [bP]) (fun j bC=>by simp only [bP,apJ];rw [apu (fun e=>bC e.symm)]) rfl rfl rfl;refine ⟨hu.run,.inl ⟨p.aS,bP,by rw [adn],aeP,?_⟩⟩;exact Kx bK kI af nR E u _ bP m e7 aa he Ez hu s1 cR
   | _=>simp [mD] at he
theorem LG {P:Program} {az:Fr} {E:Env} {fn:Func} {r:bI} {h:ae} {a:Act} {w:World} (k:RegRel0 E fn.ntmps r a) (s:ba az E h w) {af:List V} (bA:(k2 P fn.ntmps fn.results.toList).run r h=some af):
 ∃x,(results fn a.tmps).run P w=.ok x w/\Rel E (oneOf af) x:=by
 obtain ⟨cu,cg,ck⟩:=LB (P:=P) k s bA;exact ajM cg fn a P w ck
section
variable {C:Ctx}
theorem ZS (ex:h_):gV C.P (sy C ex):=by intro f args h v aa he;trivial
def sf (az:Fr) (E:Env) (R:Ending->World->Prop):a_->Prop
 | .val v aa=>∀ay x w',E.le ay->Rel ay v x->ba az ay aa w'->R (.returned x) w'
 | .cI v aa=>∀ay x w',E.le ay->Rel ay v x->ba az ay aa w'->R (.panicked (qu x)) w'
 | .fail=>False
theorem sf.up {az:Fr} {E ay:Env} (h:E.le ay) {R:Ending->World->Prop} {x:a_} (k:sf az E R x):sf az ay R x:=by
 cases x with
 | val v a7=>exact fun bM a w ab=>k bM a w (h.trans ab)
 | cI v a7=>exact fun bM a w ab=>k bM a w (h.trans ab)
 | fail=>exact k
theorem D_ (bK:ep C.P) {kA:vf} (kI:zP C.P kA) {az:Fr} {fn:Func} {E:Env} {r:bI} {u:Option V} {h:ae} {a:Act} {w:World} {m:FrameMode} {R:Ending->World->Prop}
 (k:fo E fn.ntmps r a) (hu:k9 E u m) (s:ba az E h w)
 (ai:sf az E R (finish (k2 C.P fn.ntmps fn.results.toList) r (mD kA (T.get .bad eU r).list u h))):LeavesInM (cc none) 0 C.P fn a.tmps R a.defers m w:=by
 cases ar:mD kA (T.get .bad eU r).list u h with
 | fail=>rw [ar] at ai;exact ai.elim
 | go e7 aa=>
   rw [ar] at ai;refine Kx bK kI _ a.defers E u h w m e7 aa ar k.defers.list hu s fun ay cZ w' aj an aJ=>?_;cases e7 with
   | some v=>
     obtain ⟨x,ao,rfl⟩:=an;exact ai ay x w' aj ao aJ
   | none=>
     simp only [k9] at an;subst an;simp only [finish] at ai;cases bA:(k2 C.P fn.ntmps fn.results.toList).run r aa with
     | none=>rw [bA] at ai;exact ai.elim
     | some af=>
       rw [bA] at ai;obtain ⟨x,cg,ck⟩:=LG (P:=C.P) (k.mono aj).toRegRel0 aJ bA;exact ⟨x,cg,ai ay x w' aj ck aJ⟩
theorem PO {res:xJ} {u e7:Option V} {x:l7} {aa:ae} (he:DS res u x=.go e7 aa):∃e r af,x=.ok e r aa/\(e=.normal\/e=.ret)/\T.get .bad eU r=.bad/\res.run r aa=some af/\e7=u:=by
 unfold DS at he;cases x with
 | fail=>cases he
 | cI _ _ _=>cases he
 | ok e r h=>
   have main:(bif (T.get .bad eU r).Kk then (match res.run r h with
    | some _=>tM.go u h
    | none=>.fail) else .fail)=.go e7 aa->(e=.normal\/e=.ret)->∃c6 bb af,l7.ok e r h=.ok c6 bb aa/\(c6=.normal\/c6=.ret)/\T.get .bad eU bb=.bad/\res.run bb aa=some af/\e7=u:=by
    intro he hX;cases ah:(T.get .bad eU r).Kk with
    | false=>rw [ah] at he;cases he
    | true=>
      rw [ah] at he;simp only [apt] at he;have kG:T.get .bad eU r=.bad:=by
       cases aG:T.get .bad eU r<;>rw [aG] at ah<;>first
        | rfl
        | cases ah
      cases bA:res.run r h with
      | none=>rw [bA] at he;cases he
      | some af=>
        rw [bA] at he;simp only [tM.go.injEq] at he;obtain ⟨rfl,rfl⟩:=he;exact ⟨e,r,af,rfl,hX,kG,bA,rfl⟩
   cases e with
   | normal=>exact main he (.inl rfl)
   | ret=>exact main he (.inr rfl)
   | exit id=>cases he
theorem ak6 {c:Code} {s:Hn} (h:F3 c=some s):∃id c8 cy args types,c=.seq (.region id #[c8,cy] false) s.rest/\c8.dst=some s.d/\c8.op=.call ⟨.builtin .recover,args,types⟩/\c8.guard=none/\cy.dst=some s.e/\cy.op=.assign s.x/\cy.guard=none:=by
 unfold F3 at h
 split at h
 case h_2=>cases h
 rename_i id ops rest
 split at h
 case h_2=>cases h
 rename_i c8 cy ar
 split at h
 case h_2=>cases h
 rename_i d args types e x U ab aI bq cF gu;cases h;have aek:ops=#[c8,cy]:=by apply arc;simp [ar]
 subst aek;exact ⟨id,c8,cy,_,_,rfl,U,ab,aI,bq,cF,gu⟩
theorem aaV (cJ:C.P.follows .mixedOrders=true) (bK:ep C.P) {ex:h_} (hex:tE C.P ex):zP C.P (DR C.P ex):=by
 intro f args u h e7 aa he;unfold DR at he;cases aB:C.P.funcs[f]? with
 | none=>rw [aB] at he;cases he
 | some fn=>
   rw [aB] at he;simp only at he;cases ah:fn.body with
   | none=>rw [ah] at he;cases he
   | some c=>
     rw [ah] at he;simp only at he;refine ⟨⟨fn,rfl,by rw [ah];rfl⟩,fun az E w xs m ar hu s=>?_⟩;cases fr:Nat.ble fn.ntmps top with
     | false=>rw [fr] at he;cases he
     | true=>
       rw [fr] at he;simp only [apt] at he;rw [apF] at fr;unfold PQ at he;cases lL:Nat.ble args.length fn.ntmps with
       | false=>rw [lL] at he;cases he
       | true=>
         rw [lL] at he;simp only [apt] at he;rw [apF] at lL;have k:=Qe ar lL fr;cases aD:F3 c with
         | none=>
           rw [aD] at he;simp only at he;obtain ⟨e,r,af,ao,hX,uk,bA,rfl⟩:=PO he;refine CallsDIn.mono (callsDIn_of_wp (R:=fun e w'=>∃ay x,e=.returned x/\E.le ay/\ba az ay aa w') aB ah trivial ?_) fun c6 cZ w' aq=>?_
           . refine (hex fn.ntmps c none az _ h (.inl rfl) E _ w k s _ ?_).wp;rw [ao];intro ay bk w' aj an aJ;have aH:bk.defers=[]:=by have:=an.defers;rw [uk] at this;exact this
             obtain ⟨x,cg,ck⟩:=LG (P:=C.P) an.toRegRel0 aJ bA;rcases hX with rfl | rfl<;>exact ⟨aH,x,cg,ay,x,rfl,aj,aJ⟩
           . obtain ⟨rfl,ay,x,rfl,aj,aJ⟩:=aq;exact ⟨ay,x,rfl,aj,by rw [hu.settle];exact hu.mono aj,aJ⟩
         | some c7=>
           rw [aD] at he;simp only at he;cases hi:(eV fn.ntmps (some c7.d)&&eV fn.ntmps (some c7.e)) with
           | false=>rw [hi] at he;cases he
           | true=>
             rw [hi] at he;simp only [apt] at he;simp only [apn] at hi;obtain ⟨e,r,af,ao,hX,uk,bA,rfl⟩:=PO he;obtain ⟨id,c8,cy,UR,rt,rfl,g1,g2,g3,g4,g5,g6⟩:=ak6 aD;refine callsDIn_of_wpSIn aB ah trivial fun vQ cs I9=>wpSIn_seq (wpSIn_region ?_)
             obtain ⟨X,dn,pM,iB,cZ,nd,aeI⟩:∃X,Rel E (u.getD .nilIface) X/\∃pM,(match recoverD (vQ::cs) with
              | some (v,aaG)=>v=X/\aaG=pM
              | none=>X=.nilIface/\pM=vQ::cs)/\∃cZ,pM={vQ with mode:=cZ}::cs/\settle cZ=.returning:=by
              cases u with
              | none=>
                simp only [k9] at hu;subst hu;refine ⟨.nilIface,rfl,vQ::cs,?_,.returning,?_,rfl⟩
                . simp only [recoverD,I9];exact ⟨trivial,trivial⟩
                . rw [<-I9]
              | some v=>
                obtain ⟨x,ao,rfl⟩:=hu;refine ⟨x,ao,{vQ with mode:=.panicking [{v:=x,recovered:=true}]}::cs,?_,.panicking [{v:=x,recovered:=true}],rfl,rfl⟩;simp only [recoverD,I9];exact ⟨trivial,trivial⟩
             have cm:=k.put hi.1 dn;have cz:=cm.put hi.2 (dB cm.toRegRel0 c7.x);rw [<-g1] at cz;rw [<-g4] at cz
             have yz:=(hex fn.ntmps c7.rest none az _ h (.inl rfl) E _ w cz s (fun c6 bk w'=>bodyPostS C.P fn vQ cs (fun e cZ w'=>∃ay x,e=.returned x/\E.le ay/\k9 ay none (settle cZ)/\ba az ay aa w') c6 bk pM w') (by
              have:UY c7 u (mR 0 args .e)=(fI cy.dst).run ((fI c8.dst).run (mR 0 args .e) (u.getD .nilIface)) ((bV c7.x).run ((fI c8.dst).run (mR 0 args .e) (u.getD .nilIface))):=by rw [g1,g4];rfl
              rw [<-this,ao];intro ay bk w' aj an aJ;have aH:bk.defers=[]:=by have:=an.defers;rw [uk] at this;exact this
              obtain ⟨x,cg,ck⟩:=LG (P:=C.P) an.toRegRel0 aJ bA
              rcases hX with rfl | rfl<;>exact ⟨aH,cZ,nd,x,cg,ay,x,rfl,aj,aeI,aJ⟩)).wp
             have Se:=wpSIn_of_wpIn (F:=cc none) rfl yz;have qg:∀y,Region.wanted c8 y=true:=fun y=>by simp [Region.wanted,g3]
             have ux:∀y,Region.wanted cy y=true:=fun y=>by simp [Region.wanted,g6]
             have aeE:∀(ρ:Operand->Value),(execOp ρ c8).run C.P w=.ok .recover w:=fun ρ=>by obtain ⟨dst,op,type,pos,after,guard⟩:=c8;simp only at g2;subst g2;rfl
             have Br:∀(ρ:Operand->Value),(execOp ρ cy).run C.P w=.ok (.value (ρ c7.x)) w:=fun ρ=>by obtain ⟨dst,op,type,pos,after,guard⟩:=cy;simp only at g5;subst g5;rfl
             have cn:(#[c8,cy]:Array Oper).size=2:=rfl;rw [cn];simp only [List.range_succ,List.range_zero,aql,ap3,wpOpsSIn];have c4:(#[c8,cy]:Array Oper)[0]? =some c8:=rfl;have av:(#[c8,cy]:Array Oper)[1]? =some cy:=rfl;rw [c4];simp only [qg,ap0,aeE];refine ⟨fun _ _=>trivial,?_⟩;cases R4:recoverD (vQ::cs) with
             | none=>
               rw [R4] at iB;obtain ⟨ac2,oZ⟩:=iB;subst ac2 oZ;simp only [av,ux,ap0,Br];exact ⟨fun _ _=>trivial,Se⟩
             | some CC=>
               obtain ⟨v,an6⟩:=CC;rw [R4] at iB;obtain ⟨rfl,rfl⟩:=iB;simp only [av,ux,ap0,Br];exact ⟨fun _ _=>trivial,Se⟩
end
end
theorem VE:∀(xs:List V) (x:V),Gp (xs++[x])=some (xs,x)
 | [],x=>rfl
 | [y],x=>rfl
 | y::z::xs,x=>by have:=VE (z::xs) x;simp only [ap3] at this ⊢;simp only [Gp,this]
theorem RegRel0.putAt {E:Env} {aw:Nat} {r:bI} {t:Array Value} {ds:List Deferred} (k:RegRel0 E aw r ⟨t,ds⟩) {d:Nat} (aH:d<aw) (aE:d<=top) {v:V} {x:Value} (bA:Rel E v x):
 RegRel0 E aw (T.put .bad v (aC d) r) ⟨t.setIfInBounds d x,ds⟩:=by
 refine ⟨by simp only [Array.size_setIfInBounds];exact k.size,fun j bC=>?_⟩;rw [T.ie];have cn:=k.size;simp only at cn;by_cases h:d=j
 . subst h;rw [apB rfl];simp [apO,cn,aH,bA]
 . rw [apu (fun e=>h (h7 e))];have:=k.ak j bC;simpa [apO,apJ,h] using this
theorem UH {E:Env} {aw:Nat} {ds:List Deferred}:∀(bn:List Nat) (af:List V) (xs:List Value) (r:bI) (t:Array Value),tf aw bn=true->bg E af xs->RegRel0 E aw r ⟨t,ds⟩->
 RegRel0 E aw (w6 bn af r) ⟨(bn.zip xs).foldl (fun t (p:Nat × Value)=>t.setIfInBounds p.1 p.2) t,ds⟩
 | [],af,xs,r,t,_,_,k=>by cases af<;>exact k
 | p::bn,[],xs,r,t,_,ar,k=>by simp only [bg] at ar;subst ar;exact k
 | p::bn,v::af,xs,r,t,ai,ar,k=>by obtain ⟨y,cu,rfl,a8,ar⟩:=ar;simp only [tf,aqT,apn,apQ,apF] at ai;simp only [w6,List.zip_cons_cons,List.foldl_cons];exact UH bn af cu _ _ ai.2 ar (k.putAt ai.1.1 ai.1.2 a8)
theorem akM {E:Env} {aw:Nat} {ds:List Deferred} {bn:Array Nat} {af:List V} {xs:List Value} {r:bI} {t:Array Value} (ai:tf aw bn.toList=true) (ar:bg E af xs) (k:RegRel0 E aw r ⟨t,ds⟩):
 RegRel0 E aw (w6 bn.toList af r) ⟨(bn.zip xs.toArray).foldl (fun t (p:Nat × Value)=>t.setIfInBounds p.1 p.2) t,ds⟩:=by
 rw [<-Array.foldl_toList,Array.toList_zip];exact UH bn.toList af xs r t ai ar k
theorem RegRel0.X7 {E:Env} {aw:Nat} {r:bI} {a:Act} (k:RegRel0 E aw r a) (v:V):RegRel0 E aw (T.put .bad v eU r) a:=
 ⟨k.size,fun t aE=>by rw [T.ie,apu (fun e=>w1 aE e.symm)];exact k.ak t aE⟩
section
variable {C:Ctx}
theorem abU (bK:ep C.P) (cJ:C.P.follows .mixedOrders=true) {ex:h_} (hex:tE C.P ex) {f:FuncId} {args:List V} {h:ae} {az:Fr} {E:Env} {w:World} {xs:List Value} (ar:bg E args xs) (s:ba az E h w) {R:Ending->World->Prop}
 (ai:sf az E R ((ID C.P f).run ex args h)):(∃fn,C.P.funcs[f]? =some fn/\fn.body.isSome=true)/\Calls C.P f xs.toArray w R:=by
 unfold ID at ai;cases aB:C.P.funcs[f]? with
 | none=>rw [aB] at ai;exact ai.elim
 | some fn=>
   rw [aB] at ai;simp only at ai;cases ah:fn.body with
   | none=>rw [ah] at ai;exact ai.elim
   | some c=>
     rw [ah] at ai;simp only at ai;refine ⟨⟨fn,rfl,by rw [ah];rfl⟩,?_⟩;cases fr:Nat.ble fn.ntmps top with
     | false=>rw [fr] at ai;exact ai.elim
     | true=>
       rw [fr] at ai;simp only [apt] at ai;rw [apF] at fr;unfold QI at ai;cases lL:Nat.ble args.length fn.ntmps with
       | false=>rw [lL] at ai;exact ai.elim
       | true=>
         rw [lL] at ai;simp only [apt] at ai;rw [apF] at lL;have k:=Qe ar lL fr;have kI:=aaV (C:=C) cJ bK hex;refine sz.1 (callsIn_of_wp_marks (F:=cc none) (n:=0) aB ah trivial ?_);refine (hex fn.ntmps c none az _ h (.inl rfl) E _ w k s _ ?_).wp;cases aD:ex fn.ntmps c (mR 0 args .e) h with
         | fail=>rw [aD] at ai;exact ai
         | cI v r U=>
           rw [aD] at ai;intro ay bk w' x aj an aJ bE;exact D_ (u:=some v) bK kI an ⟨x,aJ,rfl⟩ bE (sf.up aj ai)
         | ok e r U=>
           rw [aD] at ai;intro ay bk w' aj an aJ;have main:sf az E R (finish (k2 C.P fn.ntmps fn.results.toList) r (mD (DR C.P ex) (T.get .bad eU r).list none U))->LeavesInM (cc none) 0 C.P fn bk.tmps R bk.defers .returning w':=by intro ai;exact D_ (u:=none) bK kI an rfl aJ (sf.up aj ai)
           cases e with
           | normal=>exact main ai
           | ret=>exact main ai
           | exit id=>exact ai.elim
theorem Ed (bK:ep C.P) (cJ:C.P.follows .mixedOrders=true) (gO:pA C) {ex:h_} (hex:tE C.P ex) {f:FuncId} {args:List V} {h:ae} {az:Fr} {E:Env} {w:World} {xs:List Value} (ar:bg E args xs) (s:ba az E h w) {R:Ending->World->Prop}
 (ai:sf az E R ((x9 C f).run ex args h)):(∃fn,C.P.funcs[f]? =some fn/\fn.body.isSome=true)/\Calls C.P f xs.toArray w R:=by
 unfold x9 at ai;cases aq:C.Lm f with
 | none=>rw [aq] at ai;exact abU bK cJ hex ar s ai
 | some p=>
   rw [aq] at ai;simp only at ai;cases aD:p.run args h with
   | fail=>rw [aD] at ai;exact ai.elim
   | cI _ _=>rw [aD] at ai;exact ai.elim
   | val v aa=>
     rw [aD] at ai;obtain ⟨U,ab⟩:=gO.1 f p args h v aa aq aD;refine ⟨U,(ab az E w xs ar s).mono fun e w' aq=>?_⟩;obtain ⟨ay,x,rfl,aj,an,aJ⟩:=aq;exact ai ay x w' aj an aJ
theorem ba.loop {P:Program} {az:Fr} {E:Env} {h:ae} {w:World} (s:ba az E h w) {b:aO} {l e':z6} {p:js} {o b_:Loop} (aG:h.get b=.fz l) (ai:E b=some p) (cC:az.w.heap.size<=p.aS) (a7:w.heap[p.aS]? =some (.loop o)) (aD:vu E e' b_):
 (setObj p.aS (.loop b_)).run P w=.ok () {w with heap:=w.heap.setIfInBounds p.aS (.loop b_)}/\ba az E (h.set b (.fz e')) {w with heap:=w.heap.setIfInBounds p.aS (.loop b_)}:=by
 have kN:=(apr.1 a7).1;refine ⟨by simp only [setObj,Sem.run,a7],s.set (p:=p) (by rw [aG];rfl) ai cC (by simp) (fun j bC=>?_) rfl rfl rfl (fun _ _ _ e=>by cases e) ?_⟩
 . simp only [apJ];rw [apu (fun e=>bC e.symm)]
 . exact ⟨p,b_,ai,cC,by simp [kN],aD⟩
theorem run_getLoop {P:Program} {r:Nat} {w:World} {o:Loop} (a7:w.heap[r]? =some (.loop o)):(Instr.getLoop r).run P w=.ok o w:=by
 have:(getObj r).run P w=.ok (.loop o) w:=by simp only [getObj,Sem.run,a7]
 simp only [Instr.getLoop,Sem.run_bind,this,Result.andThen_ok,Sem.run_pure]
theorem alo {az:Fr} {E:Env} {h aa:ae} {w:World} {b:aO} {p:js} {e:cP} {v:V} {P:Program} {R:Ending->World->Prop} {a:Act} (s:ba az E h w) (ai:E b=some p) (he:Cu b e h=.val v aa)
 (cR:∀x w',Rel E v x->ba az E aa w'->R (.returned x) w'):roundPost P p.aS R (toExit e) a w:=by
 unfold Cu at he;have ah:=s.at ai;cases aG:h.get b<;>rw [aG] at he ah<;>simp only at he<;>try (cases he;done)
 rename_i l;obtain ⟨p',o,hn,cC,a7,aD⟩:=ah;rw [ai] at hn;cases hn;have sJ:=run_getLoop (P:=P) a7;obtain ⟨a',cG,b3,eg,bL,dI,dN,dk⟩:=aD;cases e with
 | normal=>
   simp only [a_.val.injEq] at he;obtain ⟨rfl,rfl⟩:=he;obtain ⟨U,ab⟩:=s.loop (P:=P) (e':=⟨0,none,l.d,l.aw,l.r,l.bn,l.assign,l.body⟩) (b_:={o with state:=.ready,pending:=none}) aG ai cC a7 ⟨rfl,rfl,b3,eg,bL,dI,dN,dk⟩;refine ⟨.bool true,_,?_,cR _ _ rfl ab⟩;simp only [Instr.endRound,Sem.run_bind,sJ,Result.andThen_ok,Option.isNone_none,ap0,U,Sem.run_pure]
 | ret=>
   simp only [a_.val.injEq] at he;obtain ⟨rfl,rfl⟩:=he;obtain ⟨U,ab⟩:=s.loop (P:=P) (e':=⟨2,some .ret,l.d,l.aw,l.r,l.bn,l.assign,l.body⟩) (b_:={o with state:=.done,pending:=some .ret}) aG ai cC a7 ⟨rfl,rfl,b3,eg,bL,dI,dN,dk⟩;refine ⟨.bool false,_,?_,cR _ _ rfl ab⟩;simp only [Instr.endRound,Sem.run_bind,sJ,Result.andThen_ok,Option.isNone_some,apG,ap2,U,Sem.run_pure]
 | exit id=>
   simp only [a_.val.injEq] at he;obtain ⟨rfl,rfl⟩:=he;obtain ⟨U,ab⟩:=s.loop (P:=P) (e':=⟨2,some (.exit id),l.d,l.aw,l.r,l.bn,l.assign,l.body⟩) (b_:={o with state:=.done,pending:=some (.exit id)}) aG ai cC a7 ⟨rfl,rfl,b3,eg,bL,dI,dN,dk⟩;refine ⟨.bool false,_,?_,cR _ _ rfl ab⟩;simp only [Instr.endRound,Sem.run_bind,sJ,Result.andThen_ok,Option.isNone_some,apG,ap2,U,Sem.run_pure]
theorem alp {P:Program} {ex:h_} (hex:tE P ex) {az:Fr} {E:Env} {h aa:ae} {w:World} {args:List V} {xs:List Value} {b:aO} {p:js} {v:V} (he:Ct ex args b h=.val v aa) (ar:bg E args xs) (s:ba az E h w) (ai:E b=some p):
 ∃f tmps assign body,(Instr.yield p.aS xs.toArray).run P w=.ok (.round p.aS f tmps assign body) w/\
  RoundIn (cc none) 0 P p.aS f tmps assign body w fun e w'=>∃ay x,e=.returned x/\E.le ay/\Rel ay v x/\ba az ay aa w':=by
 unfold Ct at he;have ah:=s.at ai;cases aG:h.get b<;>rw [aG] at he ah<;>simp only at he<;>try (cases he;done)
 rename_i l;obtain ⟨p',o,hn,cC,a7,aD⟩:=ah;rw [ai] at hn;cases hn;obtain ⟨a',cG,b3,eg,bL,dI,dN,dk⟩:=aD;obtain ⟨au,he⟩:=j9 he;simp only [apn,apT] at au;obtain ⟨bQ,b2,c3,gr⟩:=au;have hlen:=ar.length;have jz:o.params.size=xs.length:=by rw [<-Array.length_toList,b3,hlen,bQ]
 refine ⟨o.fn,(o.params.zip xs.toArray).foldl (fun tmps (t,a)=>tmps.setIfInBounds t a) o.tmps,o.assign,o.body,?_,?_⟩
 . simp only [Instr.yield,Sem.run_bind,run_getLoop a7,Result.andThen_ok];rw [apu (by simp [jz])];rfl
 . rw [eg,bL];refine roundIn_of_wpIn (F:=cc none) trivial ?_;have nj:RegRel0 E l.aw l.r ⟨o.tmps,[]⟩:=⟨dI,dN⟩;rw [<-b3] at b2 he;have cm:=(akM b2 ar nj).X7 .bad;have k:fo E l.aw (T.put .bad .bad eU (w6 o.params.toList args l.r)) ⟨(o.params.zip xs.toArray).foldl (fun t (p:Nat × Value)=>t.setIfInBounds p.1 p.2) o.tmps,[]⟩:=⟨cm,by rw [T.ie,apB rfl];simp [lE]⟩
   have ae2:=hex l.aw l.assign (some p.aS) az _ h (.inr c3) E _ w k s (Exit.then (fun vI xj=>∃Wh,(Instr.beginRound p.aS).run P xj=.ok () Wh/\
    l.body.wpIn (cc (some p.aS)) 0 P (roundPost P p.aS fun e w'=>∃ay x,e=.returned x/\E.le ay/\Rel ay v x/\ba az ay aa w') vI Wh) (fun _ _ _=>False))
   refine (ae2 ?_).wp;cases ao:ex l.aw l.assign (T.put .bad .bad eU (w6 o.params.toList args l.r)) h with
   | fail=>rw [ao] at he;cases he
   | cI _ _ _=>rw [ao] at he;cases he
   | ok e akT U=>
     rw [ao] at he;cases e<;>simp only at he<;>try (cases he;done)
     intro gK bJ bP aj an aJ;unfold F' at he;have kM:=aj _ _ ai;have kF:=aJ.at kM;cases Rx:U.get b<;>rw [Rx] at he kF<;>simp only at he<;>try (cases he;done)
     rename_i fh;obtain ⟨cg,c8,RW,wb,o1,wH⟩:=kF;rw [kM] at RW;cases RW;obtain ⟨cD,he⟩:=j9 he;rw [apT] at cD;obtain ⟨t1,t2,t3,t4,t5,t6,t7,t8⟩:=wH;obtain ⟨g1,g2⟩:=aJ.loop (P:=P) (e':=⟨1,fh.ht,fh.d,fh.aw,fh.r,fh.bn,fh.assign,fh.body⟩) (b_:={c8 with state:=.busy}) Rx kM wb o1 ⟨rfl,t2,t3,t4,t5,t6,t7,t8⟩;refine ⟨{bP with heap:=bP.heap.setIfInBounds p.aS (.loop {c8 with state:=.busy})},?_,?_⟩
     . have JW:c8.state=.ready:=by rw [t1,cD];rfl
       simp only [Instr.beginRound,Sem.run_bind,run_getLoop o1,Result.andThen_ok,g1,JW,Sem.run_pure]
     . refine (hex l.aw l.body (some p.aS) az _ _ (.inr gr) gK _ _ an g2 _ ?_).wp;cases yJ:ex l.aw l.body akT (U.set b (.fz ⟨1,fh.ht,fh.d,fh.aw,fh.r,fh.bn,fh.assign,fh.body⟩)) with
       | fail=>rw [yJ] at he;cases he
       | cI _ _ _=>rw [yJ] at he;cases he
       | ok aK ao0 ab=>
         rw [yJ] at he;simp only at he;intro bM a2 bH bU z2 z3;exact alo z3 (bU _ _ kM) he fun x w' eR hc=>⟨bM,x,rfl,aj.trans bU,eR,hc⟩
theorem ZT (cJ:C.P.follows .mixedOrders=true) (bK:ep C.P) (gO:pA C) {ex:h_} (hex:tE C.P ex):gJ C.P (sy C ex) where
 fn:=by
  intro az f args h v aa aB he E w xs ar s;unfold sy at he;rw [hB,apu aB] at he;cases ao:C.ext f with
  | some p=>
    rw [ao] at he;simp only at he;cases aD:p.run args h with
    | fail=>rw [aD] at he;cases he
    | cI _ _=>rw [aD] at he;cases he
    | val v1 U=>
      rw [aD] at he;simp only [a_.KW,a_.val.injEq] at he;obtain ⟨rfl,rfl⟩:=he;exact .inr (gO.2 f p args h _ _ ao aD az E w xs ar s)
  | none=>
  rw [ao] at he;simp only at he;exact .inl (Ed bK cJ gO hex ar s (by rw [he];exact fun ay x w' aj an aJ=>⟨ay,x,rfl,aj,an,aJ⟩))
 cI:=by
  intro az f args h v aa aB he E w xs ar s;unfold sy at he;rw [hB,apu aB] at he;cases ao:C.ext f with
  | some p=>
    rw [ao] at he;simp only at he;cases aD:p.run args h<;>rw [aD] at he<;>cases he
  | none=>
  rw [ao] at he;simp only at he;exact Ed bK cJ gO hex ar s (by rw [he];exact fun ay x w' aj an aJ=>⟨ay,x,rfl,aj,an,aJ⟩)
 Wk:=by intro az args b h v aa he E w xs p ar s ai;unfold sy at he;rw [hB,apB rfl] at he;unfold LK at he;rw [VE] at he;exact alp hex he ar s ai
 Wl:=by
  intro args h v aa he;unfold sy at he;rw [hB,apB rfl] at he;have av:∀b e h,Cu b e h≠.cI v aa:=by
   intro b e h he;unfold Cu at he
   split at he
   . cases e<;>cases he
   . cases he
  have aK:∀aw c b r h,F' ex aw c b r h≠.cI v aa:=by
   intro aw c b r h he;unfold F' at he
   split at he
   case h_2=>cases he
   rename_i l ar;cases au:Nat.beq l.st 0 with
   | false=>rw [au] at he;cases he
   | true=>
     rw [au] at he;simp only [apt] at he
     split at he
     . exact av _ _ _ he
     . cases he
  have bF:∀xs b h,Ct ex xs b h≠.cI v aa:=by
   intro xs b h he;unfold Ct at he
   split at he
   case h_2=>cases he
   rename_i l ar;cases au:(Nat.beq xs.length l.bn.length&&(tf l.aw l.bn&&(noMark l.assign&&noMark l.body))) with
   | false=>rw [au] at he;cases he
   | true=>
     rw [au] at he;simp only [apt] at he
     split at he
     case h_2=>cases he
     rename_i e r U _;cases e<;>simp only at he<;>try (cases he;done)
     exact aK _ _ _ _ _ he
  unfold LK at he
  split at he
  case h_2=>cases he
  split at he
  case h_2=>cases he
  exact bF _ _ _ he
end
section
variable {C:Ctx}
theorem abz {P:Program} {e:cP} {Q:Exit->Act->World->Prop} {a:Act} {w:World} (h:Q (toExit e) a w):(Iy e).wpIn (cc none) 0 P Q a w:=by
 cases e with
 | normal=>exact wpIn_skip h
 | exit id=>exact wpIn_exit h
 | ret=>exact wpIn_ret h
theorem ak1 (cJ:C.P.follows .mixedOrders=true) (bK:ep C.P) (gO:pA C) {ex:h_} (hex:tE C.P ex) {f:Operand} {bn:Array Tmp} {assign body:Code} {aw:Nat} {az:Fr} {E:Env} {r:bI} {h:ae} {a:Act} {w:World} {Q:Exit->Act->World->Prop}
 (k:fo E aw r a) (s:ba az E h w) (ai:xH az E aw Q (Lw (fun g args h=>(x9 C g).run ex args h) (bV f) bn.toList aw assign body r h)):(Code.rangeFunc f bn assign body).wpIn (cc none) 0 C.P Q a w:=by
 unfold Lw at ai;have aB:=dB k.toRegRel0 f;generalize (bV f).run r=xg at ai aB;cases xg<;>simp only at ai<;>try (exact ai.elim)
 rename_i g cs;rw [hB] at ai;by_cases aG:g=dv
 . rw [apB aG] at ai;exact ai.elim
 . rw [apu aG] at ai;simp only [Rel] at aB;rcases aB with ⟨_,eT,dn,ar⟩ | ⟨Jm,_⟩
   case inr=>exact absurd Jm aG
   refine wpIn_rangeFunc fun fn _=>?_;have f0:=s.fresh h.next (aps _)
   obtain ⟨gK,wc⟩:∃gK,gK=E.put (aC h.next) ⟨w.heap.size,0,0⟩:=⟨_,rfl⟩;obtain ⟨bP,qg⟩:∃bP:World,bP={w with heap:=w.heap.push (.deferred (some []))}:=⟨_,rfl⟩;have Bn:gK (aC h.next)=some ⟨w.heap.size,0,0⟩:=by rw [wc];unfold Env.put;rw [apB rfl]
   have s1:ba az gK (h.new .hC) bP:=by rw [wc,qg];refine s.alloc 0 ⟨⟨w.heap.size,0,0⟩,by unfold Env.put;rw [apB rfl],s.frame.size,by simp⟩
   have pc:E.le gK:=by rw [wc];exact Env.mC f0
   have wK:bP.heap.size=w.heap.size+1:=by rw [qg];simp
   obtain ⟨o,aT⟩:∃o:Loop,o={state:=.ready,pending:=none,fn,tmps:=a.tmps,params:=bn,assign,body,defers:=w.heap.size}:=⟨_,rfl⟩;obtain ⟨bM,lh⟩:∃bM,bM=gK.put (aC (h.next+1)) ⟨bP.heap.size,0,0⟩:=⟨_,rfl⟩;obtain ⟨bH,ux⟩:∃bH:World,bH={bP with heap:=bP.heap.push (.loop o)}:=⟨_,rfl⟩;have f1:gK (aC (h.next+1))=none:=s1.fresh (h.next+1) (aps _);have lY:gK.le bM:=by rw [lh];exact Env.mC f1
   have Bo:bM (aC (h.next+1))=some ⟨bP.heap.size,0,0⟩:=by rw [lh];unfold Env.put;rw [apB rfl]
   have fz:vu bM ⟨0,none,aC h.next,aw,r,bn.toList,assign,body⟩ o:=by subst aT;exact ⟨rfl,rfl,rfl,rfl,rfl,k.size,fun t aE=>Rel.mono (pc.trans lY) _ _ (k.ak t aE),_,lY _ _ Bn,rfl⟩
   have s2:ba az bM ((h.new .hC).new (.fz ⟨0,none,aC h.next,aw,r,bn.toList,assign,body⟩)) bH:=by rw [lh,ux];refine s1.alloc 0 ⟨⟨bP.heap.size,0,0⟩,o,by show gK.put (aC (h.next+1)) _ (aC (h.next+1))=_;unfold Env.put;rw [apB rfl],by show az.w.heap.size<=bP.heap.size;rw [wK];have:=s.frame.size;omega,by simp,?_⟩;have:=fz;rw [lh] at this;exact this
   obtain ⟨h3,p7⟩:∃h3,h3=bP.heap.size:=⟨_,rfl⟩;have a8:Rel bM (.func dv [.ptr (aC (h.next+1)) 0]) (.func (.yield h3) #[] #[]):=by simp only [Rel];exact .inr ⟨trivial,_,_,rfl,Bo,by rw [p7]⟩
   have pW:bg bM (.func dv [.ptr (aC (h.next+1)) 0]::cs) (.func (.yield h3) #[] #[]::eT.toList):=by simp only [bg];exact ⟨_,_,rfl,a8,bg.mono (pc.trans lY) _ _ ar⟩
   have cf:=Ed (C:=C) bK cJ gO hex (f:=g) pW s2 (R:=rangePost (cc none) 0 C.P h3 Q {a with defers:=[{target:=.collected w.heap.size,args:=#[]}]++a.defers});cases aD:(x9 C g).run ex (.func dv [.ptr (aC (h.next+1)) 0]::cs) ((h.new .hC).new (.fz ⟨0,none,aC h.next,aw,r,bn.toList,assign,body⟩)) with
   | fail=>rw [aD] at ai;exact ai.elim
   | cI _ _=>rw [aD] at ai;exact ai.elim
   | val v aa=>
     rw [aD] at ai cf;simp only at ai;obtain ⟨⟨abT,ig,ah⟩,au⟩:=cf (by
      intro ay x w' aj an aJ;simp only [rangePost];unfold US at ai;have dj:=aj _ _ Bo;have ah:=aJ.at dj;cases sJ:aa.get (aC (h.next+1))<;>rw [sJ] at ai ah<;>simp only at ai<;>try (exact ai.elim)
      rename_i l;obtain ⟨p',b_,hn,cC,a7,rq⟩:=ah;rw [dj] at hn;cases hn;obtain ⟨t1,t2,t3,t4,t5,t6,t7,t8⟩:=rq;rw [hB] at ai;by_cases cD:l.st=1
      . rw [apB cD] at ai;exact ai.elim
      . rw [apu cD] at ai;simp only at a7;rw [<-p7] at a7;have JI:(b_.state == LoopState.busy)=false:=by
         rw [t1]
         match jR:l.st with
         | 0=>rfl
         | 1=>exact absurd jR cD
         | n+2=>rfl
        have kN:=(apr.1 a7).1
        let hR:World:={w' with heap:=w'.heap.setIfInBounds h3 (.loop {b_ with state:=.exhausted})}
        have gg:(Instr.endLoop h3).run C.P w'=.ok b_.pending hR:=by
         have qf:(setObj h3 (.loop {b_ with state:=.exhausted})).run C.P w'=.ok () hR:=by simp only [setObj,Sem.run,a7];rfl
         simp only [Instr.endLoop,Sem.run_bind,run_getLoop a7,Result.andThen_ok,JI,apG,ap2,qf,Sem.run_pure]
        have oo:ba az ay (aa.set (aC (h.next+1)) .dead) hR:=by refine aJ.gone (p:=⟨bP.heap.size,0,0⟩) (by rw [sJ];rfl) dj cC (by simp [hR]) (fun j bC=>?_) rfl rfl rfl;simp only at bC;simp only [hR,apJ];rw [apu (fun e=>bC (by rw [<-e,p7]))]
        have f_:fo ay aw (T.put .bad (.tuple (.ptr (aC h.next) 0::(T.get .bad eU r).list)) eU r) {a with defers:=[{target:=.collected w.heap.size,args:=#[]}]++a.defers}:=by
         refine ⟨⟨k.size,fun t aE=>?_⟩,?_⟩
         . rw [T.ie,apu (fun e=>w1 aE e.symm)];exact Rel.mono (pc.trans (lY.trans aj)) _ _ (k.ak t aE)
         . rw [T.ie,apB rfl];simp only [lE,nF,ap3,aql];exact ⟨_,_,rfl,⟨_,aj _ _ (lY _ _ Bn),rfl⟩,(k.defers.mono (pc.trans (lY.trans aj))).list⟩
        refine ⟨b_.pending,hR,gg,?_⟩;rw [t2];cases iS:l.ht with
        | none=>
          rw [iS] at ai;exact ai ay _ hR (pc.trans (lY.trans aj)) f_ oo
        | some e=>
          rw [iS] at ai;exact abz (ai ay _ hR (pc.trans (lY.trans aj)) f_ oo))
     refine ⟨h3,[{target:=.collected w.heap.size,args:=#[]}],bH,{target:=.fn (.func g) eT,args:=#[]++#[.func (.yield h3) #[] #[]]},bH,g,_,bH,?_,?_,fun _ _=>trivial,?_,fun h=>by simp at h,sz.2 au⟩
     . subst aT ux qg;have he:=run_enterLoop_outer (P:=C.P) (w:=w) fn a.tmps bn assign body;rw [World.alloc,World.alloc] at he;simp only [Array.size_push] at p7 ⊢;rw [p7];exact he
     . simp only [resolve,dn,Deferred.ofValue,Sem.run_pure];simp [Act.eval]
     . simp only [invoke];have e:(#[]++#[Value.func (.yield h3) #[] #[]]:Array Value)++eT=(Value.func (.yield h3) #[] #[]::eT.toList).toArray:=by apply arc;simp
       rw [e];exact u4 bK ig ah _ bH
theorem zz {P:Program} {b:Frame} {a:Act} {k:List Item} {cs:List Frame} {w:World} {c:Code}:
 step P (lone (b.atR a (.code (.scope c)::k)) cs w)=.next (lone (b.atR a (.code c::.inScope c::k)) cs w):=
 step_lone_go (by simp [stepG,stepG.exec,Frame.atR])
theorem ame {P:Program} {b:Frame} {a:Act} {k:List Item} {cs:List Frame} {w:World} {c:Code}:
 step P (lone (b.atR a (.inScope c::k)) cs w)=.next (lone (b.atR a k) cs w):=
 step_lone_go (by simp [stepG,stepG.exec,Frame.atR])
theorem LN {P:Program} {rd:Option Nat} {c:Code} {Q:Exit->Act->World->Prop} {a:Act} {w:World} (h:c.wpIn (cc rd) 0 P (Exit.noGoto Q) a w):(Code.scope c).wpIn (cc rd) 0 P Q a w:=by
 intro b k cs kf ah aD;obtain ⟨e,vI,xj,aq,iA⟩:=h b (.inScope c::k) cs kf ah aD;have ao:∀id,exitTo id (.inScope c::k)=exitTo id k:=fun id=>by simp [exitTo]
 cases e with
 | normal=>exact ⟨.normal,vI,xj,aq,.head (pS _) zz (StepsIn.trans iA (.one (pS _) ame))⟩
 | exit id=>exact ⟨.exit id,vI,xj,aq,fun bp aA=>.head (pS _) zz (iA.1 bp (by rw [ao];exact aA)),fun sQ aA=>let ⟨k₁,U,ab⟩:=iA.2 sQ (by rw [ao];exact aA);⟨k₁,U,.head (pS _) zz ab⟩⟩
 | goto l=>exact aq.elim
 | ret=>exact ⟨_,vI,xj,aq,.of_steps (.one (pS _) zz) iA⟩
 | panic an4=>exact ⟨_,vI,xj,aq,.of_steps (.one (pS _) zz) iA⟩
 | outgrown=>exact ⟨_,vI,xj,aq,.of_steps (.one (pS _) zz) iA⟩
theorem aam (cJ:C.P.follows .mixedOrders=true) (bK:ep C.P) (gO:pA C) {ex:h_} (hex:tE C.P ex) (aw:Nat):∀c:Code,My C.P aw c ((ju C aw c).run ex):=by
 have cf:=ZT cJ bK gO hex;have dH:=ZS (C:=C) ex;intro c
 induction c with
 | skip=>
   intro rd az r h aD E a w k s Q ai;exact wpIn_skip (ai E a w (Env.le.refl E) k s)
 | label l=>
   intro rd az r h aD E a w k s Q ai;exact wpIn_label (ai E a w (Env.le.refl E) k s)
 | exit id=>
   intro rd az r h aD E a w k s Q ai;exact wpIn_exit (ai E a w (Env.le.refl E) k s)
 | ret=>
   intro rd az r h aD E a w k s Q ai;exact wpIn_ret (ai E a w (Env.le.refl E) k s)
 | region id ops draw=>
   intro rd az r h aD E a w k s Q ai;have lift:∀x:oD,xH az E aw Q (match x with | .ok bb aa=>.ok .normal bb aa | .cI v bb aa=>.cI v bb aa | .fail=>.fail)->nM az E aw (Q .normal) Q x:=by intro x ao;cases x<;>exact ao
   cases draw with
   | true=>
     simp only [ju,apt,F4] at ai;exact aa3 cJ bK cf dH (lift _ ai) k s
   | false=>
     simp only [ju,apA,F4] at ai;refine wpIn_region ?_;have:=Uc (rd:=rd) (Q:=Q) bK cf dH ops.toList 0 (fun j=>by simp) (aD.imp (fun h=>h) fun h=>by simpa only [noMark,apP] using h) E r h a w (lift _ ai) k s;rw [List.range_eq_range'];simpa using this
 | seq x y qh qi=>
   intro rd az r h aD E a w k s Q ai;simp only [ju,Vq] at ai;have yA:rd=none\/noMark x=true:=aD.imp (fun h=>h) fun h=>by simp only [noMark,apn] at h;exact h.1
   have J4:rd=none\/noMark y=true:=aD.imp (fun h=>h) fun h=>by simp only [noMark,apn] at h;exact h.2
   refine wpIn_seq (qh rd az r h yA E a w k s _ ?_).wp;cases ao:(ju C aw x).run ex r h with
   | fail=>rw [ao] at ai;exact ai
   | cI v a' U=>rw [ao] at ai;exact ai
   | ok av a' U=>
     rw [ao] at ai;simp only at ai;intro ay bk w' aj an aJ;cases av with
     | normal=>exact (qi rd az a' U J4 ay bk w' an aJ Q (ai.up aj)).wp
     | exit id=>exact ai ay bk w' aj an aJ
     | ret=>exact ai ay bk w' aj an aJ
 | cond c x y qh qi=>
   intro rd az r h aD E a w k s Q ai;simp only [ju,PE] at ai;have yA:rd=none\/noMark x=true:=aD.imp (fun h=>h) fun h=>by simp only [noMark,apn] at h;exact h.1
   have J4:rd=none\/noMark y=true:=aD.imp (fun h=>h) fun h=>by simp only [noMark,apn] at h;exact h.2
   have au:=dB k.toRegRel0 c;cases bA:(bV c).run r<;>rw [bA] at ai au<;>simp only at ai<;>try (exact ai.elim)
   rename_i t;simp only [Rel] at au;cases t with
   | true=>exact wpIn_cond_true au (qh rd az r h yA E a w k s Q ai).wp
   | false=>exact wpIn_cond_false au (qi rd az r h J4 E a w k s Q ai).wp
 | block id x bh=>
   intro rd az r h aD E a w k s Q ai;simp only [ju,Nt] at ai;refine wpIn_block (bh rd az r h (aD.imp (fun h=>h) fun h=>h) E a w k s _ ?_).wp;cases ao:(ju C aw x).run ex r h with
   | fail=>rw [ao] at ai;exact ai
   | cI v a' U=>rw [ao] at ai;exact ai
   | ok av a' U=>
     rw [ao] at ai;simp only at ai;intro ay bk w' aj an aJ;cases av with
     | normal=>exact ai ay bk w' aj an aJ
     | ret=>exact ai ay bk w' aj an aJ
     | exit i=>
       simp only [hB] at ai;simp only [toExit,Exit.inBlock];by_cases ax:i=id
       . rw [apB ax] at ai ⊢;exact ai ay bk w' aj an aJ
       . rw [apu ax] at ai ⊢;exact ai ay bk w' aj an aJ
 | loop x bh=>
   intro rd az r h aD E a w k s Q ai;simp only [ju,To] at ai;have yA:rd=none\/noMark x=true:=aD.imp (fun h=>h) fun h=>h;intro b cY cs kf;cases ao:(ju C aw x).run ex r h with
   | fail=>rw [ao] at ai;exact ai.elim
   | cI v a' U=>
     rw [ao] at ai;have body:=(bh rd az r h yA E a w k s (fun c6 bk w'=>∃y,c6=.panic y/\Q c6 bk w') (by rw [ao];exact fun ay bk w' x aj an aJ bE=>⟨_,rfl,ai ay bk w' x aj an aJ bE⟩)).wp b (.inLoop x::cY) cs kf trivial (F9 _);obtain ⟨aK,a2,bH,⟨y,rfl,q⟩,iA⟩:=body;exact ⟨_,a2,bH,q,.pass (x:=.inLoop x) rfl (fun _ _=>.inl (by simp)) iA⟩
   | ok av a' U=>
     rw [ao] at ai;simp only at ai;have body:=(bh rd az r h yA E a w k s
      (fun c6 bk w'=>c6=toExit av/\∃ay,E.le ay/\fo ay aw a' bk/\ba az ay U w') (by rw [ao];exact fun ay bk w' aj an aJ=>⟨rfl,ay,aj,an,aJ⟩)).wp b (.inLoop x::cY) cs kf trivial (F9 _)
     obtain ⟨aK,a2,bH,⟨rfl,bM,aj,an,aJ⟩,iA⟩:=body;cases av with
     | normal=>
       have next:=hex aw (.loop x) rd az a' U aD bM a2 bH an aJ Q (ai.up aj)
       obtain ⟨bF,a3,k6,cg,ck⟩:=next b cY cs kf
       exact ⟨bF,a3,k6,cg,.of_steps (StepsIn.trans iA (.one (pS _) stepR_inLoop)) ck⟩
     | exit id=>exact ⟨.exit id,a2,bH,ai bM a2 bH aj an aJ,.pass (x:=.inLoop x) rfl (fun _ _=>.inl (by simp)) iA⟩
     | ret=>exact ⟨.ret,a2,bH,ai bM a2 bH aj an aJ,.pass (x:=.inLoop x) rfl (fun _ _=>.inl (by simp)) iA⟩
 | scope x bh=>
   intro rd az r h aD E a w k s Q ai;simp only [ju] at ai;refine LN (bh rd az r h (aD.imp (fun h=>h) fun h=>h) E a w k s _ ?_).wp;cases ao:(ju C aw x).run ex r h with
   | fail=>rw [ao] at ai;exact ai
   | cI v a' U=>rw [ao] at ai;exact ai
   | ok av a' U=>
     rw [ao] at ai;intro ay bk w' aj an aJ;have:=ai ay bk w' aj an aJ;cases av<;>exact this
 | rangeFunc f bn x y _ _=>
   intro rd az r h aD E a w k s Q ai;rcases aD with rfl | aD
   case inr=>cases aD
   simp only [ju] at ai;exact ak1 cJ bK gO hex k s ai
 | goto l=>intro rd az r h aD E a w k s Q ai;exact ai.elim
 | refuse Wa=>intro rd az r h aD E a w k s Q ai;exact ai.elim
end
section
variable {C:Ctx}
theorem Qr (cJ:C.P.follows .mixedOrders=true) (bK:ep C.P) (gO:pA C):∀n,tE C.P (exec C n)
 | 0=>fun aw c rd az r h aD E a w k s Q ai=>ai.elim
 | n+1=>fun aw c=>aam cJ bK gO (Qr cJ bK gO n) aw c
theorem H0 (cJ:C.P.follows .mixedOrders=true) (bK:ep C.P) (gO:pA C) {n:Nat} {f:FuncId} {args:List V} {h aa:ae} {v:V} (aB:Nat.beq f dv=false) (ao:C.ext f=none) (he:sx C n f args h=.val v aa)
 {az:Fr} {E:Env} {w:World} {xs:List Value} (ar:bg E args xs) (s:ba az E h w):
 (∃fn,C.P.funcs[f]? =some fn/\fn.body.isSome=true)/\Calls C.P f xs.toArray w fun e w'=>∃ay x,e=.returned x/\E.le ay/\Rel ay v x/\ba az ay aa w':=by
 unfold sx sy at he;rw [aB,apA,ao] at he;simp only at he;exact Ed bK cJ gO (Qr cJ bK gO n) ar s (by rw [he];exact fun ay x w' aj an aJ=>⟨ay,x,rfl,aj,an,aJ⟩)
theorem Gi (w:World) (hw:Lay.ok w):ba ⟨w,fun _=>none⟩ (fun _=>none) ae.empty w:=by
 refine ⟨fun b _=>?_,fun _ _ h=>(by cases h),(fun b bO p p' _ _ h=>by cases h),fun _ _=>rfl,Below.refl _ _,hw,(fun _ _ _ _ _ _ h=>by cases h)⟩;have:ae.empty.get b=.dead:=by simp [ae.get,ae.empty]
 rw [this];trivial
theorem amQ (cJ:C.P.follows .mixedOrders=true) (bK:ep C.P) {w:World} (hw:Lay.ok w) (gO:pA C) {n:Nat} {f:FuncId} (aB:Nat.beq f dv=false) (ao:C.ext f=none) (h:Mb C n f []=true):
 Calls C.P f #[] w fun e w'=>e=.returned (.bool true)/\Below w.heap.size w w':=by
 unfold Mb at h;cases au:sx C n f [] ae.empty with
 | fail=>rw [au] at h;cases h
 | cI _ _=>rw [au] at h;cases h
 | val v a7=>
   rw [au] at h;simp only at h;cases v<;>simp only at h<;>try (cases h;done)
   subst h;obtain ⟨_,hV⟩:=H0 cJ bK gO aB ao au (az:=⟨w,fun _=>none⟩) (E:=fun _=>none) (w:=w) (xs:=[]) rfl (Gi w hw);refine hV.mono fun e w' aq=>?_;obtain ⟨ay,x,rfl,_,an,aJ⟩:=aq;simp only [Rel] at an;subst an;exact ⟨rfl,aJ.frame⟩
end
end
section
open Go Go.RowKit Go.ChangeShapes Go.WideShapes
variable [Lay]
section
variable {H:Type} {enc:TypeId × Value->H} {P:Program}
end
end
section
open Go Go.RowKit
variable [Lay]
theorem ba.below {az:Fr} {E:Env} {h:ae} {w w':World} (s:ba az E h w) (ah:Below w.heap.size w w'):ba az E h w':=by
 have cn:az.w.heap.size<=w.heap.size:=s.frame.size;have ec:∀(k:Nat) (o:Obj),w.heap[k]? =some o->w'.heap[k]? =some o:=by
  intro k o aA;rw [ah.block k,aA];by_cases aL:k<w.heap.size
  . exact aL
  . rw [aq_ (by omega)] at aA;cases aA
 refine ⟨fun b ai=>?_,s.oh,s.inj,s.fresh,s.frame.trans (ah.mono cn),s.laid,s.base⟩;have:=s.aS b ai;cases aA:h.get b<;>rw [aA] at this<;>simp only [fK] at this ⊢
 . obtain ⟨aj,p,c,el,b5,an,aJ,bE,cO⟩:=this;exact ⟨aj,p,c,el,b5,an,aJ,ec _ _ bE,cO⟩
 . obtain ⟨aj,p,c,el,b5,an,aJ,bE,cO⟩:=this;exact ⟨aj,p,c,el,b5,an,aJ,ec _ _ bE,cO⟩
 . obtain ⟨p,aj,an,aJ,bE⟩:=this;exact ⟨p,aj,an,aJ,ec _ _ bE⟩
 . obtain ⟨p,a,aj,an,aJ,bE⟩:=this;exact ⟨p,a,aj,an,ec _ _ aJ,bE⟩
 . obtain ⟨p,o,aj,an,aJ,bE⟩:=this;exact ⟨p,o,aj,an,ec _ _ aJ,bE⟩
 . obtain ⟨p,aj,an,aJ⟩:=this;exact ⟨p,aj,an,ec _ _ aJ⟩
 . obtain ⟨p,a,c,l,aj,an,aJ,bE⟩:=this;exact ⟨p,a,c,l,aj,an,ec _ _ aJ,bE⟩
 . obtain ⟨p,m,a,aj,an,aJ,bE,cO⟩:=this;exact ⟨p,m,a,aj,an,aJ,ec _ _ bE,cO⟩
theorem ahT {P:Program} {f:FuncId} {args:List V} {v:V} {h:ae} (H:∀E xs w,Lay.ok w->bg E args xs->Calls P f xs.toArray w fun e w'=>∃x,e=.returned x/\Rel E v x/\Below w.heap.size w w')
 (az:Fr) (E:Env) (w:World) (xs:List Value) (ao:bg E args xs) (s:ba az E h w):Calls P f xs.toArray w fun e w'=>∃ay x,e=.returned x/\E.le ay/\Rel ay v x/\ba az ay h w':=by
 refine (H E xs w (Lay.ec s.laid s.frame) ao).mono fun e w' q=>?_;obtain ⟨x,rfl,bA,ah⟩:=q;exact ⟨E,x,rfl,Env.le.refl E,bA,s.below ah⟩
theorem abB {P:Program} {f:FuncId} {fn:Func} {e:Array Value->Sem Value} (aB:P.funcs[f]? =some fn) (aV:(fn.name == "runtime.NumGoroutine")=false) (ah:fn.body.isNone=true) (U:Extern.findNext fn=none) (ab:Extern.find fn=some e)
 {xs:Array Value} {x:Value} {w:World} (aD:(e xs).run P w=.ok x w):(callFunc f xs).run P w=.ok (.value x) w:=by
 simp only [callFunc,Sem.run_bind,run_program,Result.andThen_ok,aB];rw [apu (by rw [aV];simp),apB ah];simp only [Sem.run_bind,U,ab];have hm:(mark (.extern f)).run P w=.ok () w:=rfl;rw [hm];simp only [Result.andThen_ok,aD,Sem.run_pure]
def BI (c:Nat):List UInt8->Nat->Int
 | [],_=>-1
 | b::l,i=>bif Nat.beq b.toNat c then .ofNat i else BI c l (i+1)
theorem SE (c:Nat) (au:c<256):∀(l:List UInt8) (i:Nat),BI c l i=if Lib.indexByte l c.toUInt8=-1 then -1 else Lib.indexByte l c.toUInt8+i
 | [],i=>by simp [BI,Lib.indexByte]
 | b::l,i=>by
   have jQ:=Lib.indexByte_ge l c.toUInt8;have pZ:(b.toNat=c)↔(b == c.toUInt8)=true:=by
    rw [aq0,<-arx];have:c.toUInt8.toNat=c:=by show c % 256=c;omega
    rw [this]
   have e:Lib.indexByte (b::l) c.toUInt8=if (b == c.toUInt8)=true then 0 else if (Lib.indexByte l c.toUInt8 == -1)=true then -1 else Lib.indexByte l c.toUInt8+1:=rfl;simp only [BI,SE c au l (i+1),hB];by_cases h:b.toNat=c
   . rw [apB (pZ.1 h)] at e;rw [apB h,e];simp
   . rw [apu (fun e=>h (pZ.2 e))] at e;rw [apu h];by_cases ab:Lib.indexByte l c.toUInt8=-1
     . rw [ab] at e;simp only [beq_self_eq_true,ap0] at e;simp [ab,e]
     . have aI:(Lib.indexByte l c.toUInt8 == -1)=false:=by simpa using ab
       rw [aI] at e;simp only [apG,ap2] at e;rw [apu ab,e,apu (by omega)];omega
def preB:List UInt8->List UInt8->Bool
 | [],_=>true
 | _::_,[]=>false
 | a::x,b::y=>bif Nat.beq a.toNat b.toNat then preB x y else false
theorem Lk:∀(x y:List UInt8),preB x y=x.isPrefixOf y
 | [],y=>by cases y<;>rfl
 | _::_,[]=>rfl
 | a::x,b::y=>by
   simp only [preB,List.isPrefixOf,hB,Lk x y];by_cases h:a.toNat=b.toNat
   . have:a=b:=arx.1 h;subst this;simp
   . have:(a == b)=false:=by
      rw [aqK];exact fun e=>h (by rw [e])
     rw [apu h,this];rfl
def hasB:List UInt8->List UInt8->Bool
 | [],sub=>preB sub []
 | b::l,sub=>bif preB sub (b::l) then true else hasB l sub
theorem Rh:∀(s sub:List UInt8),hasB s sub=Lib.contains s sub
 | [],sub=>by simp only [hasB,Lk,Lib.contains,Lib.index];cases sub<;>simp
 | b::l,sub=>by
   simp only [hasB,Lk];have bh:=Rh l sub;unfold Lib.contains at bh ⊢;unfold Lib.index;cases h:sub.isPrefixOf (b::l) with
   | true=>simp
   | false=>
     simp only [apA,apG,ap2,bh];have jQ:=Lib.index_ge l sub;cases ab:(Lib.index l sub == -1) with
     | true=>
       have:Lib.index l sub=-1:=by simpa using ab
       simp [this]
     | false=>
       have:Lib.index l sub≠-1:=by simpa using ab
       simp only [apG,ap2];rw [aqg,apE,apE];omega
def H8:Db:=⟨fun args h=>match args with
 | [x,y]=>(match x with
   | .str s=>(match y with
     | .str sub=>bif Nat.ble s.length 100000 then .val (.bool (hasB s sub)) h else .fail
     | _=>.fail)
   | _=>.fail)
 | _=>.fail⟩
theorem aax {args:List V} {h aa:ae} {v:V} (he:H8.run args h=.val v aa):∃s sub,args=[.str s,.str sub]/\s.length<=100000/\v=.bool (Lib.contains s sub)/\aa=h:=by
 simp only [H8] at he
 split at he
 case h_2=>cases he
 split at he
 case h_2=>cases he
 split at he
 case h_2=>cases he
 obtain ⟨au,U⟩:=j9 he;simp only [a_.val.injEq] at U;obtain ⟨rfl,rfl⟩:=U;exact ⟨_,_,rfl,ap4 au,by rw [Rh],rfl⟩
def E4:Db:=⟨fun args h=>match args with
 | [x,y]=>(match x with
   | .str s=>(match y with
     | .int k c=>bif oQ k .u8&&(Int.leB 0 c&&Nat.blt c.toNat 256) then .val (.int .i64 (BI c.toNat s 0)) h else .fail
     | _=>.fail)
   | _=>.fail)
 | _=>.fail⟩
theorem afs {args:List V} {h aa:ae} {v:V} (he:E4.run args h=.val v aa):∃s c,args=[.str s,.int .u8 c]/\v=.int .i64 (Lib.indexByte s c.toNat.toUInt8)/\aa=h:=by
 simp only [E4] at he
 split at he
 case h_2=>cases he
 split at he
 case h_2=>cases he
 split at he
 case h_2=>cases he
 rename_i s _ k c;obtain ⟨au,U⟩:=j9 he;simp only [apn,apQ] at au;have aA:=ua au.1;subst aA;simp only [a_.val.injEq] at U;obtain ⟨rfl,rfl⟩:=U;refine ⟨s,c,rfl,?_,rfl⟩;rw [SE _ au.2.2];by_cases h:Lib.indexByte s c.toNat.toUInt8=-1
 . rw [apB h,h]
 . rw [apu h];simp
theorem afr {P:Program} {f:FuncId} {fn:Func} (aB:P.funcs[f]? =some fn) (aV:(fn.name == "runtime.NumGoroutine")=false) (ah:fn.body.isNone=true) (U:Extern.findNext fn=none) (ab:Extern.find fn=some Extern.BytealgIndexByte.indexByte)
 {args:List V} {h aa:ae} {v:V} (he:E4.run args h=.val v aa) (az:Fr) (E:Env) (w:World) (xs:List Value) (ao:bg E args xs) (s:ba az E h w):
 ∃ay x w',(callFunc f xs.toArray).run P w=.ok (.value x) w'/\E.le ay/\Rel ay v x/\ba az ay aa w':=by
 obtain ⟨t,c,rfl,rfl,rfl⟩:=afs he;obtain ⟨y,cu,rfl,aj,z,vc,rfl,an,rfl⟩:=ao;simp only [Rel] at aj an;subst aj an;exact ⟨E,_,w,abB aB aV ah U ab (Lib.run_indexByteString _ _ _),Env.le.refl E,by simp [Rel],s⟩
inductive aU where
 | t (n:Nat)
 | c (v:V)
abbrev bd:=Nat->V
def aU.aQ (r:bd):aU->V
 | .t n=>r n
 | .c v=>v
def aU.fM (r:bd):List aU->List V
 | []=>[]
 | x::xs=>x.aQ r::aU.fM r xs
def rx:Operand->aU
 | .tmp t=>bif Nat.ble t top then .t t else .c .bad
 | .const v=>.c (hr v)
 | .func f=>bif Nat.beq f dv then .c .bad else .c (.func f [])
 | .global _=>.c .bad
def nw:List Operand->List aU
 | []=>[]
 | x::xs=>rx x::nw xs
def aU.opt (r:bd):Option aU->Option V
 | none=>none
 | some x=>some (x.aQ r)
def tk:Option Operand->Option aU
 | none=>none
 | some x=>some (rx x)
inductive e8 where
 | int (op:BinOp)
 | str (op:BinOp)
 | shl
 | shr
 | x2 (neg:Bool)
 | lb (neg:Bool) (k:Nat)
 | other (op:BinOp) (t:TypeId)
def e8.run (P:Program):e8->V->V->Option V
 | .int op=>(lT op).run
 | .str op=>(tp op).run
 | .shl=>(xb true).run
 | .shr=>(xb false).run
 | .x2 neg=>(jw neg q9).run
 | .lb neg k=>(jw neg (gY k)).run
 | .other op t=>(sr P op t).run
inductive tD where
 | int (k:IntKind)
 | bytes
 | str
 | other (s d:TypeId)
def tD.run (P:Program):tD->V->ae->a_
 | .int k=>fun x h=>x.ew .fail fun _ n=>.val (.int k (k.wrap n)) h
 | .bytes=>AH.run
 | .str=>tY.run
 | .other s d=>(q6 P s d).run
inductive jL where
 | int | str | bool
def jL.eq:jL->dJ
 | .int=>j'
 | .str=>jN
 | .bool=>q9
inductive C8 where
 | arr (n:Nat)
 | str
 | slice
 | map
inductive G where
 | bad
 | cq (x:aU)
 | pick (c a b:aU)
 | new (z:List V)
 | box (x:aU)
 | build (z:List V) (bn:List (Nat × Nat × aU))
 | gq (len size:Nat) (z:List V) (bn:List (Nat × Nat × aU))
 | dS (x:aU)
 | hJ (size:Nat) (x:aU)
 | st (size:Nat) (x y:aU)
 | s9 (x:aU)
 | bin (k:e8) (x y:aU)
 | un (op:UnOp) (x:aU)
 | cA (k:tD) (x:aU)
 | fn (f:FuncId) (eT:List aU)
 | B0 (f:FuncId) (first:List aU)
 | Ds (t:TypeId) (z:Option V) (ok:Bool) (x:aU)
 | sU (t:TypeId) (x:aU)
 | yZ (size:Nat) (z:List V) (l c:aU)
 | rV (x:aU) (br ax ev:Option aU)
 | d' (size:Nat) (x:aU) (br ax ev:Option aU)
 | er (off:Nat) (x:aU)
 | oW (off:Nat) (x:aU)
 | v7 (off size:Nat) (x:aU)
 | bW (size:Nat) (x i:aU)
 | uA (n size:Nat) (x i:aU)
 | mB (x i:aU)
 | jV (t:TypeId) (x i:aU)
 | look (k:jL) (z:V) (ok:Bool) (x i:aU)
 | pt (k:jL) (m i x:aU)
 | s7 (x:Option aU)
 | zn (x:aU)
 | wY (x:aU)
 | ext (x:aU) (i:Nat)
 | call (f:FuncId) (args:List aU)
 | ma (f:aU) (args:List aU)
 | len (k:C8) (x:aU)
 | app (size:Nat) (s x:aU)
 | copy (size:Nat) (d s:aU)
 | y0 (args:List aU)
 | ev (args:List aU)
 | Pz (z:List V) (x:aU)
 | xR (x:aU)
 | An (size:Nat) (z:List V) (s x:aU)
 | yW (z:V) (ok:Bool) (x i:aU)
 | looks (k:TypeId) (z:V) (ok:Bool) (x i:aU)
 | CB (m i x:aU)
 | zD (k:TypeId) (m i x:aU)
 | BZ (z:V) (m i:aU)
 | yY (k:TypeId) (z:V) (m i:aU)
 | x5 (m s x:aU)
 | zm (x:aU)
 | mG (x:aU)
 | xZ (x:aU)
 | w2 (neg:Bool) (x y:aU)
def kD (r:bd):List (Nat × Nat × aU)->List (Nat × Nat × V)
 | []=>[]
 | (o,s,x)::bn=>(o,s,x.aQ r)::kD r bn
def jc:List V->List (Nat × Nat × V)->Option (List V)
 | cells,[]=>some cells
 | cells,(off,size,v)::rest=>bif v.fu&&(Nat.beq v.cells.length size&&Nat.ble (off+v.cells.length) cells.length) then jc (sD cells off v.cells) rest else none
def C8.run:C8->V->ae->a_
 | .arr n=>fun _ h=>.val (.int .i64 n) h
 | .str=>fun x h=>a_.of h ((pf .string).run x)
 | .slice=>fun x h=>a_.of h ((pf (.slice 0)).run x)
 | .map=>fun x h=>BR [x] h
def ze (neg:Bool) (h:ae) (x y:V):Option V:=
 match jF h x y with
 | some b=>some (.bool (bif neg then !b else b))
 | none=>none
def G.run (P:Program) (g:G) (call:dR) (r:bd) (h:ae):a_:=
 match g with
 | .bad=>.fail
 | .cq x=>.val (x.aQ r) h
 | .pick c a b=>match c.aQ r with
   | .bool t=>.val (bif t then a.aQ r else b.aQ r) h
   | _=>.fail
 | .new z=>gT (.ptr (aC h.next) 0) (gk h z)
 | .box x=>bif (x.aQ r).fu then gT (.ptr (aC h.next) 0) (gk h (x.aQ r).cells) else .fail
 | .build z bn=>(match jc z (kD r bn) with
   | some cs=>.val (.agg cs) h
   | none=>.fail)
 | .gq n _ z bn=>match jc (iH z n) (kD r bn) with
   | some cs=>(match gk h cs with
     | some aa=>.val (.slice (aC h.next) 0 n n) aa
     | none=>.fail)
   | none=>.fail
 | .dS x=>a_.of h (nn h (x.aQ r))
 | .hJ n x=>a_.of h (nm n h (x.aQ r))
 | .st n x y=>gT .bad (rW n h (x.aQ r) (y.aQ r))
 | .s9 x=>a_.of h (uR (x.aQ r))
 | .bin k x y=>a_.of h (k.run P (x.aQ r) (y.aQ r))
 | .un op x=>a_.of h (rZ op (x.aQ r))
 | .cA k x=>k.run P (x.aQ r) h
 | .fn f eT=>.val (.func f (aU.fM r eT)) h
 | .B0 f first=>.val (.l1 f (aU.fM r first)) h
 | .Ds t z ok x=>a_.of h (Ar t z ok (x.aQ r))
 | .sU t x=>.val (.iface t (x.aQ r)) h
 | .yZ n z l c=>uM n z (l.aQ r) (c.aQ r) h
 | .rV x br ax m3=>a_.of h (mJ (x.aQ r) (aU.opt r br) (aU.opt r ax) (aU.opt r m3))
 | .d' n x br ax m3=>a_.of h (match x.aQ r with
   | .bu=>zu (aU.opt r br) (aU.opt r ax) (aU.opt r m3)
   | .slice b off wS cap=>rU n b off wS cap (aU.opt r br) (aU.opt r ax) (aU.opt r m3)
   | .dW b off wS idx=>rT n b off wS idx (aU.opt r br) (aU.opt r ax) (aU.opt r m3)
   | .gb b off jE idx=>zv b off jE idx (aU.opt r br) (aU.opt r ax) (aU.opt r m3)
   | _=>none)
 | .er off x=>a_.of h ((x.aQ r).iV none fun b o=>some (.ptr b (o+off)))
 | .oW off x=>a_.of h (match x.aQ r with
   | .agg cs=>cs[off]?
   | _=>none)
 | .v7 off n x=>a_.of h (match x.aQ r with
   | .agg cs=>some (.agg ((cs.drop off).take n))
   | _=>none)
 | .bW n x i=>a_.of h ((uD n).run (x.aQ r) (i.aQ r))
 | .uA n s x i=>a_.of h ((sX n s).run (x.aQ r) (i.aQ r))
 | .mB x i=>a_.of h (sZ.run (x.aQ r) (i.aQ r))
 | .jV t x i=>a_.of h ((sY P t).run (x.aQ r) (i.aQ r))
 | .look k z ok x i=>a_.of h (g' k.eq z ok h (x.aQ r) (i.aQ r))
 | .pt k m i x=>gT .bad (j2 k.eq h (m.aQ r) (i.aQ r) (x.aQ r))
 | .s7 x=>rG (aU.opt r x) h
 | .zn x=>(match x.aQ r with
   | .str s=>.val (.ptr (aC h.next) 0) (h.new (.iter s 0))
   | _=>.fail)
 | .wY x=>wX (x.aQ r) h
 | .ext x i=>(match x.aQ r with
   | .tuple af=>a_.of h af[i]?
   | _=>.fail)
 | .call f args=>call f (aU.fM r args) h
 | .ma f args=>(f.aQ r).y9 (aU.fM r args) fun g xs=>call g xs h
 | .len k x=>k.run (x.aQ r) h
 | .app n s x=>jM n (s.aQ r) (x.aQ r) h
 | .copy n d s=>copyV n (d.aQ r) (s.aQ r) h
 | .y0 args=>a_.of h (kZ (fun b a=>!Int.leB a b) (aU.fM r args))
 | .ev args=>a_.of h (kZ (fun b a=>!Int.leB b a) (aU.fM r args))
 | .Pz z x=>DH z (x.aQ r) h
 | .xR x=>a_.of h (tX (x.aQ r))
 | .An n z s x=>Dp n z (s.aQ r) (x.aQ r) h
 | .yW z ok x i=>a_.of h (hq ⟨jF h⟩ z ok h (x.aQ r) (i.aQ r))
 | .looks k z ok x i=>a_.of h (bif lp P k (i.aQ r) then hq (structEq P k) z ok h (x.aQ r) (i.aQ r) else none)
 | .CB m i x=>gT .bad (j2 ⟨jF h⟩ h (m.aQ r) (i.aQ r) (x.aQ r))
 | .zD k m i x=>gT .bad (bif lp P k (i.aQ r) then j2 (structEq P k) h (m.aQ r) (i.aQ r) (x.aQ r) else none)
 | .BZ z m i=>DY z (m.aQ r) (i.aQ r) h
 | .yY k z m i=>xY P k z (m.aQ r) (i.aQ r) h
 | .x5 m s x=>gT .bad (q8 h (m.aQ r) (s.aQ r) (x.aQ r))
 | .zm x=>rangeMap (x.aQ r) h
 | .mG x=>gG (x.aQ r) h
 | .xZ x=>t_ (x.aQ r) h
 | .w2 neg x y=>a_.of h (ze neg h (x.aQ r) (y.aQ r))
def Lz (P:Program) (op:BinOp) (t:TypeId):e8:=
 match op with
 | .shl=>.shl
 | .shr=>.shr
 | op=>match bc P t with
   | none=>.other op t
   | some aP=>match aP.bj with
     | .int _=>.int op
     | .string=>.str op
     | .bool=>(match op with
       | .eql=>.x2 false
       | .neq=>.x2 true
       | _=>.other op t)
     | .pointer _=>(match op with
       | .eql=>.lb false 1
       | .neq=>.lb true 1
       | _=>.other op t)
     | .slice _=>(match op with
       | .eql=>.lb false 2
       | .neq=>.lb true 2
       | _=>.other op t)
     | .map _ _=>(match op with
       | .eql=>.lb false 3
       | .neq=>.lb true 3
       | _=>.other op t)
     | .func _ _ _=>(match op with
       | .eql=>.lb false 4
       | .neq=>.lb true 4
       | _=>.other op t)
     | _=>.other op t
def LD (P:Program) (op:BinOp) (t:TypeId) (lit:Bool):e8:=
 bif lit then (match bc P t with
  | some aP=>match aP.bj with
    | .interface _=>match op with
      | .eql=>.lb false 5
      | .neq=>.lb true 5
      | _=>.lb false 99
    | _=>.lb false 99
  | none=>.lb false 99) else Lz P op t
def LC (P:Program) (s d:TypeId):tD:=
 match bc P s,bc P d with
 | some u5,some oO=>match oO.bj with
   | .int k=>.int k
   | .string=>match u5.bj with
     | .slice e=>match bc P e with
       | some bf=>match bf.bj with
         | .int .u8=>.str
         | _=>.other s d
       | none=>.other s d
     | _=>.other s d
   | .slice e=>match bc P e with
     | some bf=>match bf.bj with
       | .int .u8=>.bytes
       | _=>.other s d
     | none=>.other s d
   | _=>.other s d
 | _,_=>.other s d
def qw (place:Nat->Option (Nat × Nat)):List (Nat × Operand)->Option (List (Nat × Nat × aU))
 | []=>some []
 | (i,x)::bn=>match place i with
   | none=>none
   | some (off,size)=>match qw place bn with
     | none=>none
     | some l=>some ((off,size,rx x)::l)
def LA (P:Program) (t:TypeId) (bn:List (Nat × Operand)):G:=
 match bc P t with
 | some aP=>match aP.zero with
   | some z=>match aP.bj with
     | .struct b8=>bif D9 P b8.toList then (match qw (x8 P b8) bn with
       | some l=>.build z.cells l
       | none=>.bad) else .bad
     | .array _ e=>match bc P e with
       | some bf=>(match qw (fun i=>some (i * bf.size,bf.size)) bn with
         | some l=>.build z.cells l
         | none=>.bad)
       | none=>.bad
     | _=>.bad
   | none=>.bad
 | none=>.bad
def LF (P:Program) (t:TypeId) (len:Nat) (bn:List (Nat × Operand)):G:=
 match bc P t with
 | some aP=>match aP.bj with
   | .slice e=>match bc P e with
     | some bf=>match bf.zero with
       | some z=>bif Nat.ble (len * bf.size) 1000000&&Nat.beq z.cells.length bf.size then
          (match qw (fun i=>some (i * bf.size,bf.size)) bn with
          | some l=>.gq len bf.size z.cells l
          | none=>.bad) else .bad
       | none=>.bad
     | none=>.bad
   | _=>.bad
 | none=>.bad
def wQ:TypeDesc->Option jL
 | .int _=>some .int
 | .string=>some .str
 | .bool=>some .bool
 | _=>none
def H6 (P:Program) (t:TypeId):Option (List V):=
 match bc P t with
 | some aP=>match aP.bj with
   | .slice e=>match bc P e with
     | some bf=>match bf.zero with
       | some z=>some z.cells
       | none=>none
     | none=>none
   | _=>none
 | none=>none
theorem aal (P:Program) (t:TypeId):AE P t=H6 P t:=rfl
def F5 (P:Program) (c:Call):G:=
 match c.callee with
 | .value (.func f)=>bif Nat.beq f dv then .bad else .call f (nw c.args.toList)
 | .value x=>.ma (rx x) (nw c.args.toList)
 | .invoke _ _=>.bad
 | .builtin b=>match b with
   | .len=>match c.argTypes.toList,c.args.toList with
     | [t],[x]=>(match bc P t with
       | some aP=>(match aP.bj with
         | .map _ _=>.len .map (rx x)
         | .array n _=>.len (.arr n) (rx x)
         | .string=>.len .str (rx x)
         | .slice _=>.len .slice (rx x)
         | _=>.bad)
       | none=>.bad)
     | _,_=>.bad
   | .append=>match c.argTypes.toList,c.args.toList with
     | [t,u],[s,x]=>(match bc P t,bc P u with
       | some aP,some tt=>(match tt.bj with
         | .int _=>(match aP.bj with
           | .slice e=>(match bc P e with
             | none=>.bad
             | some bf=>match bf.zero with
               | none=>.bad
               | some z=>bif Nat.ble 1 bf.size&&Nat.ble bf.bytes 4096&&Nat.beq z.cells.length bf.size then .An bf.size z.cells (rx s) (rx x) else .bad)
           | _=>.bad)
         | _=>match aP.bj with
           | .slice e=>(match bc P e with
             | none=>.bad
             | some bf=>match bf.zero with
               | none=>.bad
               | some z=>bif Nat.ble 1 bf.size&&Nat.ble bf.bytes 4096&&Nat.beq z.cells.length bf.size then .app bf.size (rx s) (rx x) else .bad)
           | _=>.bad)
       | _,_=>.bad)
     | _,_=>.bad
   | .copy=>match c.argTypes.toList,c.args.toList with
     | t::_,[d,s]=>(match bc P t with
       | some aP=>(match aP.bj with
         | .slice e=>(match bc P e with
           | some bf=>.copy bf.size (rx d) (rx s)
           | none=>.bad)
         | _=>.bad)
       | none=>.bad)
     | _,_=>.bad
   | .min=>.y0 (nw c.args.toList)
   | .max=>.ev (nw c.args.toList)
   | .clear=>match c.argTypes.toList,c.args.toList with
     | [t],[x]=>(match H6 P t with
       | some z=>.Pz z (rx x)
       | none=>.bad)
     | _,_=>.bad
   | .cap=>match c.argTypes.toList,c.args.toList with
     | [t],[x]=>(match bc P t with
       | some aP=>bif BH aP.bj then .xR (rx x) else .bad
       | none=>.bad)
     | _,_=>.bad
   | _=>.bad
def u2 (P:Program) (op:Op):G:=
 match op with
 | .move x=>.cq (rx x)
 | .assign x=>.cq (rx x)
 | .pick c a b=>.pick (rx c) (rx a) (rx b)
 | .alloc t=>(match bc P t with
   | some aP=>(match aP.zero with
     | some z=>.new z.cells
     | none=>.bad)
   | none=>.bad)
 | .box _ x=>.box (rx x)
 | .build t bn=>LA P t bn.toList
 | .buildSlice t n bn=>LF P t n bn.toList
 | .load t x=>(match bc P t with
   | none=>.bad
   | some aP=>bif aP.agg then .hJ aP.size (rx x) else bif Nat.beq aP.size 1 then .dS (rx x) else .bad)
 | .store t x y=>(match bc P t with
   | none=>.bad
   | some aP=>.st aP.size (rx x) (rx y))
 | .nilCheck x=>.s9 (rx x)
 | .binOp op t x y _=>.bin (LD P op t (rF x||rF y)) (rx x) (rx y)
 | .unOp op _ x=>.un op (rx x)
 | .convert s d x=>.cA (LC P s d) (rx x)
 | .makeFunc (.func f) first eT=>bif first.isEmpty&&!Nat.beq f dv then .fn f (nw eT.toList) else bif eT.isEmpty&&!Nat.beq f dv then .B0 f (nw first.toList) else .bad
 | .makeInterface t x=>(match bc P t with
   | some aP=>bif Nat.beq (e_ aP.bj) 5 then .bad else .sU t (rx x)
   | none=>.bad)
 | .makeSlice t l c=>(match bc P t with
   | some aP=>(match aP.bj with
     | .slice e=>(match bc P e with
       | some bf=>(match bf.zero with
         | some z=>bif Nat.ble bf.bytes 4096 then .yZ bf.size z.cells (rx l) (rx c) else .bad
         | none=>.bad)
       | none=>.bad)
     | _=>.bad)
   | none=>.bad)
 | .slice t x br ax ev=>(match bc P t with
   | none=>.bad
   | some aP=>match aP.bj with
     | .string=>.rV (rx x) (tk br) (tk ax) (tk ev)
     | .slice e=>(match bc P e with
       | none=>.bad
       | some bf=>.d' bf.size (rx x) (tk br) (tk ax) (tk ev))
     | _=>.bad)
 | .fieldAddr t x i=>(match re P t i with
   | none=>.bad
   | some f=>match bc P f.type with
     | none=>.bad
     | some kE=>bif Nat.beq kE.size 0 then .bad else .er f.offset (rx x))
 | .field t x i=>(match re P t i with
   | none=>.bad
   | some f=>match bc P f.type with
     | none=>.bad
     | some aP=>bif aP.agg then .v7 f.offset aP.size (rx x) else .oW f.offset (rx x))
 | .indexAddr t x i=>(match bc P t with
   | none=>.bad
   | some aP=>match aP.bj with
     | .slice e=>(match bc P e with
       | none=>.bad
       | some bf=>.bW bf.size (rx x) (rx i))
     | .array n e=>(match bc P e with
       | none=>.bad
       | some bf=>.uA n bf.size (rx x) (rx i))
     | _=>.bad)
 | .index t x i=>(match bc P t with
   | none=>.bad
   | some aP=>match aP.bj with
     | .string=>.mB (rx x) (rx i)
     | _=>.jV t (rx x) (rx i))
 | .range t x=>(match bc P t with
   | some aP=>(match aP.bj with
     | .string=>.zn (rx x)
     | .map _ _=>.zm (rx x)
     | _=>.bad)
   | none=>.bad)
 | .next it s=>bif s then .wY (rx it) else .mG (rx it)
 | .entry it=>.xZ (rx it)
 | .lookup t x k ok=>(match bc P t with
   | some aP=>(match aP.bj with
     | .map bp e=>(match bc P bp with
       | some gx=>(match bc P e with
         | some bf=>(match bf.zero with
           | some z=>(match wQ gx.bj with
             | some cY=>.look cY z ok (rx x) (rx k)
             | none=>bif kQ gx.bj then .bad else bif jk P bp then .yW z ok (rx x) (rx k) else bif l6 P bp then .looks bp z ok (rx x) (rx k) else .bad)
           | none=>.bad)
         | none=>.bad)
       | none=>.bad)
     | _=>.bad)
   | none=>.bad)
 | .mapUpdate t m k x | .insert t m k x=>(match bc P t with
   | some aP=>(match aP.bj with
     | .map bp _=>(match bc P bp with
       | some gx=>(match wQ gx.bj with
         | some cY=>.pt cY (rx m) (rx k) (rx x)
         | none=>bif kQ gx.bj then .bad else bif jk P bp then .CB (rx m) (rx k) (rx x) else bif l6 P bp then .zD bp (rx m) (rx k) (rx x) else .bad)
       | none=>.bad)
     | _=>.bad)
   | none=>.bad)
 | .mapEntry t m k=>(match bc P t with
   | some aP=>(match aP.bj with
     | .map bp e=>(match bc P e with
       | some bf=>(match bf.zero with
         | some z=>bif jk P bp then .BZ z (rx m) (rx k) else bif l6 P bp then .yY bp z (rx m) (rx k) else .bad
         | none=>.bad)
       | none=>.bad)
     | _=>.bad)
   | none=>.bad)
 | .entryStore _ m st x=>.x5 (rx m) (rx st) (rx x)
 | .makeMap t x=>(match bc P t with
   | some aP=>bif Nat.beq (e_ aP.bj) 3 then .s7 (tk x) else .bad
   | none=>.bad)
 | .extract x i=>.ext (rx x) i
 | .typeAssert x _ t ok=>(match bc P t with
   | some aP=>bif Nat.beq (e_ aP.bj) 5 then .bad else .Ds t aP.zero ok (rx x)
   | none=>.bad)
 | .call c=>F5 P c
 | _=>.bad
def ed (cQ:bI):bd:=fun t=>T.get .bad (aC t) cQ
theorem eW (cQ:bI) (x:Operand):(bV x).run cQ=(rx x).aQ (ed cQ):=by
 cases x with
 | tmp t=>
   simp only [bV,rx];cases Nat.ble t top<;>rfl
 | const v=>rfl
 | func f=>
   simp only [bV,rx];cases Nat.beq f dv<;>rfl
 | global g=>rfl
theorem x6 (cQ:bI):∀xs:List Operand,(ra xs).run cQ=aU.fM (ed cQ) (nw xs)
 | []=>rfl
 | x::xs=>by simp only [ra,nw,aU.fM,eW,x6 cQ xs]
theorem K6 (cQ:bI) (x:Option Operand):(rL x).run cQ=aU.opt (ed cQ) (tk x):=by
 cases x with
 | none=>rfl
 | some x=>simp only [rL,tk,aU.opt,eW]
theorem D' (cQ:bI) {place:Nat->Option (Nat × Nat)}:∀{bn:List (Nat × Operand)} {l:List (Nat × Nat × aU)},qw place bn=some l->∀cells,mY place cells ((uV bn).run cQ)=jc cells (kD (ed cQ) l)
 | [],l,h,cells=>by simp only [qw,apq] at h;subst h;rfl
 | (i,x)::bn,l,h,cells=>by
   simp only [qw] at h;cases ai:place i with
   | none=>rw [ai] at h;cases h
   | some os=>
     obtain ⟨off,size⟩:=os;rw [ai] at h;simp only at h;cases ar:qw place bn with
     | none=>rw [ar] at h;cases h
     | some e'=>
       rw [ar] at h;simp only [apq] at h;subst h;simp only [uV,mY,ai,kD,jc,eW];cases ((rx x).aQ (ed cQ)).fu&&(Nat.beq ((rx x).aQ (ed cQ)).cells.length size&&Nat.ble (off + ((rx x).aQ (ed cQ)).cells.length) cells.length) with
       | false=>rfl
       | true=>exact D' cQ ar _
section
variable {P:Program}
theorem ak' (op:BinOp) (t:TypeId):(Lz P op t).run P=(sr P op t).run:=by
 unfold Lz sr;cases op<;>first | rfl | skip
 all_goals
  cases aE:bc P t with
  | none=>simp only [e8.run];unfold sr;rw [aE]
  | some aP=>
    simp only;cases hu:aP.bj<;>first | rfl | (simp only [e8.run];unfold sr;rw [aE];simp only [hu];done) | (simp only [e8.run];unfold pQ hD;simp only [aE,hu];first | done | rfl)
theorem alc (op:BinOp) (t:TypeId) (lit:Bool):(LD P op t lit).run P=(At P op t lit).run:=by
 unfold LD At;cases lit with
 | false=>simp only [apA];exact ak' op t
 | true=>
   simp only [apt];cases bc P t with
   | none=>rfl
   | some aP=>
     simp only;cases aP.bj<;>first | rfl | (cases op<;>rfl)
theorem ala (s d:TypeId):(LC P s d).run P=(q6 P s d).run:=by
 unfold LC
 split
 . rename_i u5 oO aW aH
   split
   . rename_i k hu;simp only [tD.run];unfold q6;rw [aW,aH];simp only [hu]
   . rename_i hu
     split
     . rename_i e bA
       split
       . rename_i bf he
         split
         . rename_i hw;simp only [tD.run];unfold q6;rw [aW,aH];simp only [hu,bA,he,hw]
         . rfl
       . rfl
     . rfl
   . rename_i e hu
     split
     . rename_i bf he
       split
       . rename_i hw;simp only [tD.run];unfold q6;rw [aW,aH];simp only [hu,he,hw]
       . rfl
     . rfl
   . rfl
 . rfl
theorem Kr {d:TypeDesc} {cY:jL} (h:wQ d=some cY):kQ d=true/\lo d=cY.eq:=by cases d<;>simp only [wQ] at h<;>first | (cases h;done) | (cases h;exact ⟨rfl,rfl⟩)
theorem ak_ {c:Call} {call:dR} {cQ:bI} {h aa:ae} {v:V} (he:(F5 P c).run P call (ed cQ) h=.val v aa):(sw P c).run call cQ h=.val v aa:=by
 unfold F5 at he;unfold sw
 split at he
 . rename_i f au;rw [au];cases a8:Nat.beq f dv with
   | true=>rw [a8] at he;cases he
   | false=>
     rw [a8] at he;simp only [apA,G.run] at he;simpa only [bV,a8,apA,q_,V.y9,x6,aqB] using he
 . rename_i x ao au;rw [au];simp only [G.run] at he;simpa only [eW,x6] using he
 . cases he
 . rename_i b au;rw [au];simp only [x6];cases b<;>simp only at he<;>try (cases he;done)
   case len=>
    split at he
    . rename_i t x aE ao;cases jU:bc P t with
      | none=>rw [jU] at he;cases he
      | some aP=>
        rw [jU] at he;simp only at he;simp only [q2,aE,jU,ao,nw,aU.fM];cases hu:aP.bj<;>rw [hu] at he<;>first | (cases he;done) | (simpa only [uF,apt,apA,G.run,C8.run,pf,a_.of] using he)
    . cases he
   case append=>
    split at he
    . rename_i t u s x aE ao
      split at he
      . rename_i aP tt jU yF;simp only [q2,aE,ao,nw,aU.fM,Dn,jU,yF]
        split at he
        . rename_i k aeU
          split at he
          . rename_i e cp;cases eM:bc P e with
            | none=>rw [eM] at he;cases he
            | some bf=>
              rw [eM] at he;simp only at he;cases bm:bf.zero with
              | none=>rw [bm] at he;cases he
              | some z=>
                rw [bm] at he;simp only at he;cases ah:(Nat.ble 1 bf.size&&Nat.ble bf.bytes 4096&&Nat.beq z.cells.length bf.size) with
                | false=>rw [ah] at he;cases he
                | true=>
                  rw [ah] at he;simp only [apt,G.run] at he;simp only [aeU,cp,eM,bm,ah,apt];exact he
          . cases he
        . rename_i cT
          split at he
          . rename_i e cp;cases eM:bc P e with
            | none=>rw [eM] at he;cases he
            | some bf=>
              rw [eM] at he;simp only at he;cases bm:bf.zero with
              | none=>rw [bm] at he;cases he
              | some z=>
                rw [bm] at he;simp only at he;cases ah:(Nat.ble 1 bf.size&&Nat.ble bf.bytes 4096&&Nat.beq z.cells.length bf.size) with
                | false=>rw [ah] at he;cases he
                | true=>
                  rw [ah] at he;simp only [apt,G.run] at he;cases J9:tt.bj<;>first
                   | (exact absurd J9 (cT _))
                   | (simp only [cp,eM,bm,ah,apt];exact he)
          . cases he
      . cases he
    . cases he
   case copy=>
    split at he
    . rename_i t bx d s aE ao;cases jU:bc P t with
      | none=>rw [jU] at he;cases he
      | some aP=>
        rw [jU] at he;simp only at he
        split at he
        . rename_i e cp;cases eM:bc P e with
          | none=>rw [eM] at he;cases he
          | some bf=>
            rw [eM] at he;simp only [G.run] at he;simp only [q2,aE,ao,nw,aU.fM,DI,jU,cp,eM];exact he
        . cases he
    . cases he
   case min=>exact he
   case max=>exact he
   case clear=>
    split at he
    . rename_i t x aE ao;cases au:H6 P t with
      | none=>rw [au] at he;cases he
      | some z=>
        rw [au] at he;simp only [G.run] at he;simp only [q2,aE,ao,nw,aU.fM,aal,au];exact he
    . cases he
   case cap=>
    split at he
    . rename_i t x aE ao;cases jU:bc P t with
      | none=>rw [jU] at he;cases he
      | some aP=>
        rw [jU] at he;simp only at he;cases ah:BH aP.bj with
        | false=>rw [ah] at he;cases he
        | true=>
          rw [ah] at he;simp only [apt,G.run] at he;simp only [q2,aE,ao,nw,aU.fM,jU,ah,apt];exact he
    . cases he
theorem U3 {o:Oper} {call:dR} {cQ:bI} {h aa:ae} {v:V} (he:(u2 P o.op).run P call (ed cQ) h=.val v aa):(fp P o).run call cQ h=.val v aa:=by
 obtain ⟨dst,op,type,pos,after,guard⟩:=o;cases op<;>simp only [u2] at he<;>try (cases he;done)
 all_goals simp only [fp]
 case move x=>simpa only [eW,G.run] using he
 case assign x=>simpa only [eW,G.run] using he
 case pick c a b=>
  simp only [eW,G.run] at he ⊢;generalize (rx c).aQ (ed cQ)=q at he ⊢;cases q<;>exact he
 case alloc t=>
  cases aE:bc P t with
  | none=>rw [aE] at he;cases he
  | some aP=>
    rw [aE] at he;simp only at he ⊢;cases bm:aP.zero with
    | none=>rw [bm] at he;cases he
    | some z=>rw [bm] at he;exact he
 case box t x=>simpa only [eW,G.run] using he
 case build t bn=>
  unfold LA at he;unfold DA;cases aE:bc P t with
  | none=>rw [aE] at he;cases he
  | some aP=>
    rw [aE] at he;simp only at he ⊢;cases bm:aP.zero with
    | none=>rw [bm] at he;cases he
    | some z=>
      rw [bm] at he;simp only at he ⊢;cases hu:aP.bj<;>rw [hu] at he<;>simp only at he ⊢<;>try (cases he;done)
      . rename_i n e;cases eM:bc P e with
        | none=>rw [eM] at he;cases he
        | some bf=>
          rw [eM] at he;simp only at he ⊢;cases ai:qw (fun i=>some (i * bf.size,bf.size)) bn.toList with
          | none=>rw [ai] at he;cases he
          | some l=>
            rw [ai] at he;simp only [G.run] at he;rw [D' cQ ai];cases aB:jc z.cells (kD (ed cQ) l) with
            | none=>rw [aB] at he;cases he
            | some cs=>rw [aB] at he;exact he
      . rename_i b8;cases aA:D9 P b8.toList with
        | false=>rw [aA] at he;cases he
        | true=>
          rw [aA] at he;simp only [apt] at he ⊢;cases ai:qw (x8 P b8) bn.toList with
          | none=>rw [ai] at he;cases he
          | some l=>
            rw [ai] at he;simp only [G.run] at he;rw [D' cQ ai];cases aB:jc z.cells (kD (ed cQ) l) with
            | none=>rw [aB] at he;cases he
            | some cs=>rw [aB] at he;exact he
 case buildSlice t n bn=>
  unfold LF at he;unfold vN;cases aE:bc P t with
  | none=>rw [aE] at he;cases he
  | some aP=>
    rw [aE] at he;simp only at he ⊢;cases hu:aP.bj<;>rw [hu] at he<;>simp only at he ⊢<;>try (cases he;done)
    rename_i e;cases eM:bc P e with
    | none=>rw [eM] at he;cases he
    | some bf=>
      rw [eM] at he;simp only at he ⊢;cases bm:bf.zero with
      | none=>rw [bm] at he;cases he
      | some z=>
        rw [bm] at he;simp only at he ⊢;cases ah:(Nat.ble (n * bf.size) 1000000&&Nat.beq z.cells.length bf.size) with
        | false=>rw [ah] at he;cases he
        | true=>
          rw [ah] at he;simp only [apt] at he ⊢;cases ai:qw (fun i=>some (i * bf.size,bf.size)) bn.toList with
          | none=>rw [ai] at he;cases he
          | some l=>
            rw [ai] at he;simp only [G.run] at he;rw [D' cQ ai];exact he
 case load t x=>
  unfold qp;cases aE:bc P t with
  | none=>rw [aE] at he;cases he
  | some aP=>
    rw [aE] at he;simp only at he ⊢;cases bw:aP.agg with
    | true=>rw [bw] at he;simpa only [apt,eW,G.run] using he
    | false=>
      rw [bw] at he;simp only [apA] at he ⊢;cases aW:Nat.beq aP.size 1 with
      | true=>rw [aW] at he;simpa only [apt,eW,G.run] using he
      | false=>rw [aW] at he;cases he
 case store t x y=>
  unfold tm;cases aE:bc P t with
  | none=>rw [aE] at he;cases he
  | some aP=>rw [aE] at he;simpa only [eW,G.run] using he
 case nilCheck x=>simpa only [eW,G.run] using he
 case binOp op t x y t2=>simpa only [eW,G.run,alc] using he
 case unOp op t x=>simpa only [eW,G.run] using he
 case convert s d x=>simpa only [eW,G.run,ala] using he
 case makeFunc fn first eT=>
  cases fn<;>simp only at he<;>try (cases he;done)
  simp only;cases aB:(first.isEmpty&&!Nat.beq _ dv) with
  | true=>rw [aB] at he;simpa only [apt,x6,G.run] using he
  | false=>
    rw [aB] at he;simp only [apA] at he ⊢;cases jy:(eT.isEmpty&&!Nat.beq _ dv) with
    | true=>rw [jy] at he;simpa only [apt,x6,G.run] using he
    | false=>rw [jy] at he;cases he
 case typeAssert x vb t ok=>
  cases aE:bc P t with
  | none=>rw [aE] at he;cases he
  | some aP=>
    rw [aE] at he;simp only at he ⊢;cases ah:Nat.beq (e_ aP.bj) 5 with
    | true=>rw [ah] at he;cases he
    | false=>rw [ah] at he;simpa only [apA,eW,G.run] using he
 case makeInterface t x=>
  cases aE:bc P t with
  | none=>rw [aE] at he;cases he
  | some aP=>
    rw [aE] at he;simp only at he ⊢;cases ah:Nat.beq (e_ aP.bj) 5 with
    | true=>rw [ah] at he;cases he
    | false=>rw [ah] at he;simpa only [apA,eW,G.run] using he
 case makeSlice t l c=>
  unfold wU;cases aE:bc P t with
  | none=>rw [aE] at he;cases he
  | some aP=>
    rw [aE] at he;simp only at he ⊢;cases hu:aP.bj<;>rw [hu] at he<;>simp only at he ⊢<;>try (cases he;done)
    rename_i e;cases eM:bc P e with
    | none=>rw [eM] at he;cases he
    | some bf=>
      rw [eM] at he;simp only at he ⊢;cases bm:bf.zero with
      | none=>rw [bm] at he;cases he
      | some z=>
        rw [bm] at he;simp only at he ⊢;cases ah:Nat.ble bf.bytes 4096 with
        | false=>rw [ah] at he;cases he
        | true=>rw [ah] at he;simpa only [apt,eW,G.run] using he
 case slice t x br ax m3=>
  unfold Gk;cases aE:bc P t with
  | none=>rw [aE] at he;cases he
  | some aP=>
    rw [aE] at he;simp only at he ⊢;cases hu:aP.bj<;>rw [hu] at he<;>simp only at he ⊢<;>try (cases he;done)
    . simpa only [eW,K6,G.run] using he
    . rename_i e;cases eM:bc P e with
      | none=>rw [eM] at he;cases he
      | some bf=>
        rw [eM] at he;simp only [eW,K6,G.run] at he ⊢;generalize (rx x).aQ (ed cQ)=q at he ⊢;cases q<;>exact he
 case fieldAddr t x i=>
  unfold D6;cases aB:re P t i with
  | none=>rw [aB] at he;cases he
  | some f=>
    rw [aB] at he;simp only at he ⊢;cases aE:bc P f.type with
    | none=>rw [aE] at he;cases he
    | some kE=>
      rw [aE] at he;simp only at he ⊢;cases ah:Nat.beq kE.size 0 with
      | true=>rw [ah] at he;cases he
      | false=>rw [ah] at he;simpa only [apA,eW,G.run] using he
 case field t x i=>
  unfold D7;cases aB:re P t i with
  | none=>rw [aB] at he;cases he
  | some f=>
    rw [aB] at he;simp only [qv] at he ⊢;cases aE:bc P f.type with
    | none=>rw [aE] at he;cases he
    | some kE=>
      rw [aE] at he;simp only at he ⊢;cases ah:kE.agg with
      | true=>
        rw [ah] at he;simp only [apt,eW,G.run] at he ⊢;generalize (rx x).aQ (ed cQ)=q at he ⊢;cases q<;>exact he
      | false=>
        rw [ah] at he;simp only [apA,eW,G.run] at he ⊢;generalize (rx x).aQ (ed cQ)=q at he ⊢;cases q<;>exact he
 case indexAddr t x i=>
  unfold E3;cases aE:bc P t with
  | none=>rw [aE] at he;cases he
  | some aP=>
    rw [aE] at he;simp only at he ⊢;cases hu:aP.bj<;>rw [hu] at he<;>simp only at he ⊢<;>try (cases he;done)
    all_goals
     rename_i e;cases eM:bc P e with
     | none=>rw [eM] at he;cases he
     | some bf=>rw [eM] at he;simpa only [eW,G.run] using he
 case index t x i=>
  cases aE:bc P t with
  | none=>rw [aE] at he;cases he
  | some aP=>
    rw [aE] at he;simp only at he;cases hu:aP.bj<;>rw [hu] at he<;>simp only [G.run] at he
    case string=>
     unfold sY;rw [aE];simp only [hu];simpa only [eW] using he
    all_goals simpa only [eW] using he
 case range t x=>
  unfold F2;cases aE:bc P t with
  | none=>rw [aE] at he;cases he
  | some aP=>
    rw [aE] at he;simp only at he ⊢;cases hu:aP.bj<;>rw [hu] at he<;>simp only at he ⊢<;>try (cases he;done)
    all_goals simp only [eW,G.run] at he ⊢
    all_goals first
     | exact he
     | (generalize (rx x).aQ (ed cQ)=q at he ⊢
        cases q<;>exact he)
 case next it b=>
  cases b<;>simpa only [apt,apA,eW,G.run] using he
 case entry it=>simpa only [eW,G.run] using he
 case mapEntry t m k=>
  unfold Fj;cases aE:bc P t with
  | none=>rw [aE] at he;cases he
  | some aP=>
    rw [aE] at he;simp only at he ⊢;cases hu:aP.bj<;>rw [hu] at he<;>simp only at he ⊢<;>try (cases he;done)
    rename_i bp e;cases eM:bc P e with
    | none=>rw [eM] at he;cases he
    | some bf=>
      rw [eM] at he;simp only at he ⊢;cases bm:bf.zero with
      | none=>rw [bm] at he;cases he
      | some z=>
        rw [bm] at he;simp only at he ⊢;cases ai:jk P bp with
        | true=>rw [ai] at he;simpa only [apt,eW,G.run] using he
        | false=>
          rw [ai] at he;simp only [apA] at he ⊢;cases aW:l6 P bp with
          | true=>rw [aW] at he;simpa only [apt,eW,G.run] using he
          | false=>rw [aW] at he;cases he
 case entryStore t m st x=>simpa only [eW,G.run] using he
 case lookup t x k ok=>
  unfold Fi;cases aE:bc P t with
  | none=>rw [aE] at he;cases he
  | some aP=>
    rw [aE] at he;simp only at he ⊢;cases hu:aP.bj<;>rw [hu] at he<;>simp only at he ⊢<;>try (cases he;done)
    rename_i bp e;cases aA:bc P bp with
    | none=>rw [aA] at he;cases he
    | some gx=>
      rw [aA] at he;simp only at he ⊢;cases eM:bc P e with
      | none=>rw [eM] at he;cases he
      | some bf=>
        rw [eM] at he;simp only at he ⊢;cases bm:bf.zero with
        | none=>rw [bm] at he;cases he
        | some z=>
          rw [bm] at he;simp only at he ⊢;cases kd:wQ gx.bj with
          | none=>
            rw [kd] at he;simp only at he ⊢;cases aB:kQ gx.bj with
            | true=>rw [aB] at he;cases he
            | false=>
              rw [aB] at he;simp only [apA] at he ⊢;cases ai:jk P bp with
              | true=>rw [ai] at he;simpa only [apt,eW,G.run] using he
              | false=>
                rw [ai] at he;simp only [apA] at he ⊢;cases aW:l6 P bp with
                | true=>rw [aW] at he;simpa only [apt,eW,G.run] using he
                | false=>rw [aW] at he;cases he
          | some cY=>
            rw [kd] at he;obtain ⟨aj,an⟩:=Kr kd;simp only [aj,an,apt];simpa only [eW,G.run] using he
 case mapUpdate t m k x=>
  unfold pv;cases aE:bc P t with
  | none=>rw [aE] at he;cases he
  | some aP=>
    rw [aE] at he;simp only at he ⊢;cases hu:aP.bj<;>rw [hu] at he<;>simp only at he ⊢<;>try (cases he;done)
    rename_i bp e;cases aA:bc P bp with
    | none=>rw [aA] at he;cases he
    | some gx=>
      rw [aA] at he;simp only at he ⊢;cases kd:wQ gx.bj with
      | none=>
        rw [kd] at he;simp only at he ⊢;cases aB:kQ gx.bj with
        | true=>rw [aB] at he;cases he
        | false=>
          rw [aB] at he;simp only [apA] at he ⊢;cases ai:jk P bp with
          | true=>rw [ai] at he;simpa only [apt,eW,G.run] using he
          | false=>
            rw [ai] at he;simp only [apA] at he ⊢;cases aW:l6 P bp with
            | true=>rw [aW] at he;simpa only [apt,eW,G.run] using he
            | false=>rw [aW] at he;cases he
      | some cY=>
        rw [kd] at he;obtain ⟨aj,an⟩:=Kr kd;simp only [aj,an,apt];simpa only [eW,G.run] using he
 case insert t m k x=>
  unfold pv;cases aE:bc P t with
  | none=>rw [aE] at he;cases he
  | some aP=>
    rw [aE] at he;simp only at he ⊢;cases hu:aP.bj<;>rw [hu] at he<;>simp only at he ⊢<;>try (cases he;done)
    rename_i bp e;cases aA:bc P bp with
    | none=>rw [aA] at he;cases he
    | some gx=>
      rw [aA] at he;simp only at he ⊢;cases kd:wQ gx.bj with
      | none=>
        rw [kd] at he;simp only at he ⊢;cases aB:kQ gx.bj with
        | true=>rw [aB] at he;cases he
        | false=>
          rw [aB] at he;simp only [apA] at he ⊢;cases ai:jk P bp with
          | true=>rw [ai] at he;simpa only [apt,eW,G.run] using he
          | false=>
            rw [ai] at he;simp only [apA] at he ⊢;cases aW:l6 P bp with
            | true=>rw [aW] at he;simpa only [apt,eW,G.run] using he
            | false=>rw [aW] at he;cases he
      | some cY=>
        rw [kd] at he;obtain ⟨aj,an⟩:=Kr kd;simp only [aj,an,apt];simpa only [eW,G.run] using he
 case makeMap t x=>
  unfold yX;cases aE:bc P t with
  | none=>rw [aE] at he;cases he
  | some aP=>
    rw [aE] at he;simp only at he ⊢;cases ah:Nat.beq (e_ aP.bj) 3 with
    | false=>rw [ah] at he;cases he
    | true=>rw [ah] at he;simpa only [apt,K6,G.run] using he
 case extract x i=>
  simp only [eW,G.run] at he ⊢;generalize (rx x).aQ (ed cQ)=q at he ⊢;cases q<;>exact he
 case call c=>exact ak_ he
end
end
end Go.Proofs.YtgmhjhgoamjeeaaGreatDoor.aZ
