/- The abstract machine and its walks (a verified interpreter of the model's code: plain definitions and lemmas, no condition). Printed by a program from longer texts: names made short. -/
import Derived.Test.YthemdhlheglhoaaGreatDoorM2
import Derived.Scope
import Derived.RangeFuncRecord
set_option linter.unusedSectionVars false
set_option linter.unusedSimpArgs false
set_option linter.unusedVariables false
set_option maxHeartbeats 64000000
noncomputable section
namespace Go.Proofs.YthemdhlheglhoaaGreatDoor.a7
section
open Go Go.RowKit
variable [Lay]
theorem Eu {α:Type} (p q:α->Bool):∀(l:List α),(∀x ∈ l,q x=true->p x=true)->(∃x ∈ l,p x=true/\q x=false)->l.countP q<l.countP p
 | [],_,h=>by obtain ⟨x,ak,_⟩:=h;simp at ak
 | a::l,aa,ad=>by
   have hle:l.countP q<=l.countP p:=List.countP_mono_left fun x ak=>aa x (by simp [ak]);obtain ⟨x,ak,ag,aC⟩:=ad;simp only [List.mem_cons] at ak;rcases ak with rfl | ak
   . rw [List.countP_cons,List.countP_cons,ag,aC];simp;omega
   . have br:=Eu p q l (fun y aZ=>aa y (by simp [aZ])) ⟨x,ak,ag,aC⟩;have a1:=aa a (by simp);rw [List.countP_cons,List.countP_cons];cases afU:q a with
     | true=>rw [a1 afU];simp;omega
     | false=>simp;omega
theorem x_ (e:Edge):Region.binds .any e=vE e:=by unfold Region.binds vE;cases e.ground<;>rfl
section
variable {P:Program}
theorem uL {order:List Nat}:∀{bm:List Nat} {k j p:Nat},CQ order k bm=true->bm[j]? =some p->order[p]? =some (k+j)
 | [],_,j,p,_,h=>by simp at h
 | q::bm,k,j,p,ag,h=>by
   simp only [CQ,Bool.and_eq_true] at ag;cases j with
   | zero=>
     simp only [List.getElem?_cons_zero,Option.some.injEq] at h;subst h;have aa:=ag.1;cases aC:order[q]? with
     | none=>rw [aC] at aa;cases aa
     | some i=>rw [aC] at aa;rw [Nat.beq_eq] at aa;rw [aa];rfl
   | succ j=>
     have:=uL ag.2 (show bm[j]? =some p by simpa using h);rw [this];congr 1;omega
theorem nI {ops:Array Oper}:∀{order:List Nat} {p i:Nat} {o:Oper},order[p]? =some i->ops[i]? =some o->(hW ops order)[p]? =some o
 | [],p,i,o,h,_=>by simp at h
 | x::xs,p,i,o,h,a6=>by
   cases p with
   | zero=>
     simp only [List.getElem?_cons_zero,Option.some.injEq] at h;subst h;simp [hW,a6]
   | succ p=>simpa [hW] using nI (show xs[p]? =some i by simpa using h) a6
theorem qs {ops:Array Oper}:∀{order:List Nat},(hW ops order).length=order.length
 | []=>rfl
 | x::xs=>by simp [hW,qs (order:=xs)]
structure Cert (P:Program) (au:Nat) (ops:Array Oper) (calls:Nat->dU) (es:List e8) (bq:bI) (aX:ai) (dc:bI) (aA:ai) (eE:List Nat) (order aG:List Nat) (N M:Nat) (lit:Bool):Prop where
 len:es.length=N
 CA:N<=ops.size
 UX:N<=M
 iE:∀k,k<ops.size->posOf aG k<ops.size/\order[posOf aG k]? =some k
 lE:∀p,p<ops.size->∃i,i<ops.size/\posOf aG i=p
 aX:cq es aA 0=aX
 bq:ey es dc 0=bq
 step:∀i o,ops[i]? =some o->posOf aG i<N->∃e,es[posOf aG i]? =some e/\(cK P au ops o).run (calls i) e.r e.h=.val e.v (cq es aA (posOf aG i+1))/\ey es dc (posOf aG i+1)=(ga o.dst).run e.r e.v
 kf:∀i o,ops[i]? =some o->∃cV,(eZ [] ops.toList)[i]? =some cV/\mP i o=true/\(posOf aG i<M->
  ∀k ok,ops[k]? =some ok->posOf aG k<M->∃mk,(eZ [] ops.toList)[k]? =some mk/\pw i cV (b7 ops o) o.dst k mk ok (Nat.blt (posOf aG k) (posOf aG i))=true/\(fe P o.op=true->er P ok=true->posOf aG k<posOf aG i->gl cV k=true\/(lit=true/\lv o=true/\lv ok=true)))
 ends:N ∈ eE
 mem:∀j o,ops[j]? =some o->er P o=true->posOf aG j ∈ eE
 Xg:∀s ∈ eE,(s=ops.size\/(s=N/\M=N))\/∃k o,ops[k]? =some o/\er P o=true/\s=posOf aG k
 ask:∀j o,ops[j]? =some o->looks o.op=true->fe P o.op=false->posOf aG j<N->∃e,es[posOf aG j]? =some e/\∀s ∈ eE,
  s4 P (eZ [] ops.toList) ops.toList aG j (((eZ [] ops.toList)[j]?).getD 0) s=true->∃c ab,(hi P c/\hx P c)/\(cK P au ops o).run c e.r (cq es aA s)=.val e.v ab
 tail:M<ops.size->M=N/\∀k ok mk,ops[k]? =some ok->N<=posOf aG k->(eZ [] ops.toList)[k]? =some mk->∀j,j<ops.size->posOf aG j<N->gl mk j=true
 stop:N<ops.size->ops.size<=M->∃i0 iC m0,ops[i0]? =some iC/\posOf aG i0=N/\ma iC.op=true/\(eZ [] ops.toList)[i0]? =some m0/\
  (∀k ok mk,ops[k]? =some ok->N<posOf aG k->(eZ [] ops.toList)[k]? =some mk->gl mk i0=true)/\
  (∀k ok,ops[k]? =some ok->ha ok=true->posOf aG k<N->gl m0 k=true)/\∃v ab,(cK P au ops iC).run (calls i0) dc aA=.cT v ab
theorem UK {o:Oper} (h:ma o.op=true):fe P o.op=true/\ha o=false:=by
 obtain ⟨dst,op,type,pos,after,guard⟩:=o;cases op<;>simp only [ma] at h<;>try (cases h;done)
 . rename_i c;obtain ⟨callee,args,types⟩:=c;cases callee<;>simp only at h<;>try (cases h;done)
   exact ⟨rfl,rfl⟩
 . exact ⟨rfl,rfl⟩
variable {au:Nat} {ops:Array Oper} {call:dU} {calls:Nat->dU} {es:List e8} {bq:bI} {aX:ai} {dc:bI} {aA:ai} {eE:List Nat} {order aG:List Nat} {N M:Nat} {lit:Bool}
theorem Cert.xi (C:Cert P au ops calls es bq aX dc aA eE order aG N M lit) {k bj:Nat} (aa:k<ops.size) (ad:bj<ops.size) (he:posOf aG k=posOf aG bj):k=bj:=by have a:=(C.iE k aa).2;have b:=(C.iE bj ad).2;rw [he,b] at a;cases a;rfl
theorem Rw {ops:Array Oper} {aG:List Nat} (aA:yj P ops aG=true):∀i o,ops[i]? =some o->∃cV,(eZ [] ops.toList)[i]? =some cV/\mP i o=true/\
 ∀k ok,ops[k]? =some ok->∃mk,(eZ [] ops.toList)[k]? =some mk/\pw i cV (b7 ops o) o.dst k mk ok (Nat.blt (posOf aG k) (posOf aG i))=true/\(fe P o.op=true->er P ok=true->posOf aG k<posOf aG i->gl cV k=true):=by
 intro i o an;unfold yj at aA;obtain ⟨cV,aa,ad⟩:=qF aA i o (by simpa using an);simp only [Nat.zero_add,Bool.and_eq_true] at ad;refine ⟨cV,aa,ad.1,fun k ok aH=>?_⟩;obtain ⟨mk,bA,bx⟩:=qF ad.2 k ok (by simpa using aH);simp only [Nat.zero_add,Bool.and_eq_true] at bx;refine ⟨mk,bA,bx.1,fun aP a' aO=>?_⟩;have c4:=bx.2;rw [aP,a',Bool.true_and,show Nat.blt (posOf aG k) (posOf aG i)=true from by rw [Nat.blt_eq];exact aO] at c4;exact c4
theorem Cert.ME (C:Cert P au ops calls es bq aX dc aA eE order aG N M lit):∀p,p<=N->∀t,t<=top->
 (∃k o e,posOf aG k<p/\ops[k]? =some o/\o.dst=some t/\es[posOf aG k]? =some e/\T.get .bad (aj t) (ey es dc p)=e.v)\/
 ((∀k o,posOf aG k<p->ops[k]? =some o->o.dst≠some t)/\T.get .bad (aj t) (ey es dc p)=T.get .bad (aj t) bq)
 | 0,_,t,aw=>.inr ⟨fun k o h=>by omega,by rw [C.bq]⟩
 | p+1,an,t,aw=>by
   obtain ⟨i,aO,ki⟩:=C.lE p (by have:=C.CA;omega);have cF:ops[i]? =some ops[i]:=Array.getElem?_eq_getElem aO;obtain ⟨e,aa,ad,aJ⟩:=C.step i ops[i] cF (by omega);rw [ki] at aa ad aJ;have KS:ey es dc p=e.r:=by simp [ey,aa]
   have dZ:=Sg (r:=e.r) (v:=e.v) (kT ad).1 aw;rw [aJ,dZ];by_cases bc:ops[i].dst=some t
   . rw [if_pos bc];exact .inl ⟨i,_,e,by omega,cF,bc,by rw [ki];exact aa,rfl⟩
   . rw [if_neg bc,<-KS];rcases Cert.ME C p (by omega) t aw with ⟨k,o,cZ,ar,av,aK,bU,dV⟩ | ⟨ar,av⟩
     . exact .inl ⟨k,o,cZ,by omega,av,aK,bU,dV⟩
     . refine .inr ⟨fun k o aH a6=>?_,av⟩;by_cases g':k=i
       . subst g';rw [cF] at a6;cases a6;exact bc
       . refine ar k o ?_ a6;have iQ:=(Array.getElem?_eq_some_iff.1 a6).1;have:posOf aG k≠p:=fun e=>g' (C.xi iQ aO (by rw [e,ki]));omega
theorem Cert.Jj (C:Cert P au ops calls es bq aX dc aA eE order aG N M lit):∀p,p<=N->T.get .bad e_ (ey es dc p)=T.get .bad e_ bq
 | 0,_=>by rw [C.bq]
 | p+1,an=>by
   obtain ⟨i,aO,ki⟩:=C.lE p (by have:=C.CA;omega);have cF:ops[i]? =some ops[i]:=Array.getElem?_eq_getElem aO;obtain ⟨e,aa,ad,aJ⟩:=C.step i ops[i] cF (by omega);rw [ki] at aa ad aJ;have KS:ey es dc p=e.r:=by simp [ey,aa]
   have bc:=(kT ad).1;rw [aJ,<-Cert.Jj C p (by omega),KS];cases aeV:ops[i].dst with
   | none=>rfl
   | some d=>
     rw [aeV] at bc;simp only [fa,Bool.and_eq_true,Nat.ble_eq] at bc;simp only [ga];rw [T.iy,if_neg (xf bc.2)]
def nameAt (es:List e8) (aA:ai) (aG:List Nat) (k:Nat):aQ:=aj (cq es aA (posOf aG k)).next
def AW (es:List e8) (aA:ai) (aG:List Nat) (k:Nat):cf:=(cq es aA (posOf aG k+1)).get (nameAt es aA aG k)
def Made (es:List e8) (aA:ai) (aG:List Nat) (k:Nat):Prop:=(cq es aA (posOf aG k+1)).next≠(cq es aA (posOf aG k)).next
def ks (ops:Array Oper) (es:List e8) (aA:ai) (aG:List Nat) (listed:Array Bool) (s k:Nat):Prop:=
 ∃o,ops[k]? =some o/\(ha o=true/\Made es aA aG k)/\¬listed.getD k false=true/\posOf aG k<s
structure Holds (az F:Fr) (es:List e8) (aA:ai) (aG:List Nat) (D:Nat->Prop):Prop where
 w:F.w=az.w
 bG:∀b,(∀k,D k->nameAt es aA aG k≠b)->F.ew b=az.ew b
 new:∀k,D k->F.ew (nameAt es aA aG k)=some (AW es aA aG k)/\az.ew (nameAt es aA aG k)=none
 inj:∀k bj,D k->D bj->nameAt es aA aG k=nameAt es aA aG bj->k=bj
theorem Holds.congr {az F:Fr} {D N1:Nat->Prop} (H:Holds az F es aA aG D) (h:∀k,N1 k↔D k):Holds az F es aA aG N1:=
 ⟨H.w,fun b ae=>H.bG b fun k aH=>ae k ((h k).2 aH),fun k aH=>H.new k ((h k).1 aH),fun k bj aH gZ=>H.inj k bj ((h k).1 aH) ((h bj).1 gZ)⟩
theorem Holds.none {az F:Fr} {D:Nat->Prop} (H:Holds az F es aA aG D) (h:∀k,¬D k):F=az:=by have:F.ew=az.ew:=funext fun b=>H.bG b fun k aH=>absurd aH (h k);cases F;cases az;have hw:=H.w;simp only at this hw;rw [this,hw]
theorem Cert.advance (C:Cert P au ops calls es bq aX dc aA eE order aG N M lit) {az:Fr} {listed:Array Bool} {E:Env} {w:World}:∀(d q:Nat),q+d=N->(∀k o,ops[k]? =some o->ha o=true->q<=posOf aG k->¬listed.getD k false=true)->
 ∀F,Holds az F es aA aG (ks ops es aA aG listed q)->bf F E (cq es aA q) w->
 ∃s fq,s ∈ eE/\q<=s/\s<=N/\(∀k o,ops[k]? =some o->er P o=true->q<=posOf aG k->s<=posOf aG k)/\Holds az fq es aA aG (ks ops es aA aG listed s)/\bf fq E (cq es aA s) w
 | 0,q,aC,_,F,H,S=>by
   have:q=N:=by omega
   subst this;exact ⟨q,F,C.ends,Nat.le_refl _,Nat.le_refl _,fun k o _ _ h=>h,H,S⟩
 | d+1,q,aC,ug,F,H,S=>by
   obtain ⟨i,aO,ki⟩:=C.lE q (by have:=C.CA;omega);have cF:ops[i]? =some ops[i]:=Array.getElem?_eq_getElem aO;cases mv:er P ops[i] with
   | true=>exact ⟨q,F,by rw [<-ki];exact C.mem i _ cF mv,Nat.le_refl _,by omega,fun k o _ _ h=>h,H,S⟩
   | false=>
     obtain ⟨e,aa,ad,aJ⟩:=C.step i ops[i] cF (by omega);rw [ki] at aa ad;have ud:cq es aA q=e.h:=by simp [cq,aa]
     have only:∀k o,ops[k]? =some o->posOf aG k=q->k=i:=fun k o aH ag=>C.xi (Array.getElem?_eq_some_iff.1 aH).1 aO (by rw [ag,ki]);have fin:∀fq,Holds az fq es aA aG (ks ops es aA aG listed (q+1))->bf fq E (cq es aA (q+1)) w->
      ∃s fq,s ∈ eE/\q<=s/\s<=N/\(∀k o,ops[k]? =some o->er P o=true->q<=posOf aG k->s<=posOf aG k)/\Holds az fq es aA aG (ks ops es aA aG listed s)/\bf fq E (cq es aA s) w:=by
      intro fq fh gw;obtain ⟨s,rW,g1,g2,g3,g4,g5,g6⟩:=Cert.advance C d (q+1) (by omega) (fun k o aa ad aJ=>ug k o aa ad (by omega)) fq fh gw;refine ⟨s,rW,g1,by omega,g3,fun k o aH aD ag=>g4 k o aH aD ?_,g5,g6⟩;by_cases Fz:posOf aG k=q
      . have:=only k o aH Fz;subst this;rw [cF] at aH;cases aH;rw [mv] at aD;cases aD
      . omega
     have pass:cq es aA (q+1)=e.h->(ha ops[i]=true->¬Made es aA aG i)->∃s fq,s ∈ eE/\q<=s/\s<=N/\(∀k o,ops[k]? =some o->er P o=true->q<=posOf aG k->s<=posOf aG k)/\Holds az fq es aA aG (ks ops es aA aG listed s)/\bf fq E (cq es aA s) w:=by
      intro y5 mA;rw [<-ud] at y5;refine fin F (H.congr fun k=>⟨?_,?_⟩) (by rw [y5];exact S)
      . rintro ⟨o,ar,av,aK,bU⟩;refine ⟨o,ar,av,aK,?_⟩;have:posOf aG k≠q:=fun e=>by
         have:=only k o ar e;subst this;rw [cF] at ar;cases ar;exact mA av.1 av.2
        omega
      . rintro ⟨o,ar,av,aK,bU⟩;exact ⟨o,ar,av,aK,by omega⟩
     cases a1:ha ops[i] with
     | true=>
      rcases Rt a1 ad with ⟨di,bA,bx⟩ | ⟨bA,_⟩
      ·
       have aR:=S.hold di;have aV:nameAt es aA aG i=aj (cq es aA q).next:=by unfold nameAt;rw [ki]
       have ae:AW es aA aG i=di:=by unfold AW;rw [aV,ki,bA,ud,ai.iM,if_pos rfl]
       rw [ud,<-bA] at aR;have uf:Made es aA aG i:=by unfold Made;rw [ki,bA,ud];exact Nat.succ_ne_self _
       have re:¬listed.getD i false=true:=ug i _ cF a1 (by omega);have I3:∀k,ks ops es aA aG listed (q+1) k->k=i\/ks ops es aA aG listed q k:=by
        rintro k ⟨o,ar,av,aK,bU⟩;by_cases Fz:posOf aG k=q
        . exact .inl (only k o ar Fz)
        . exact .inr ⟨o,ar,av,aK,by omega⟩
       have fresh:∀b ly,F.ew b=some ly->b≠nameAt es aA aG i:=by intro b ly q5 heq;obtain ⟨_,_,j,Cd,wU⟩:=S.qw b ly q5;rw [heq,aV] at wU;rw [ud] at Cd wU;have:=fu wU;omega
       have TG:∀b,b≠nameAt es aA aG i->(F.hold (aj e.h.next) di).ew b=F.ew b:=by intro b SD;rw [aV,ud] at SD;simp only [Fr.hold,if_neg SD]
       have ZW:(F.hold (aj e.h.next) di).ew (nameAt es aA aG i)=some di:=by rw [aV,ud];simp only [Fr.hold,if_true]
       have ne:∀k,ks ops es aA aG listed q k->nameAt es aA aG k≠nameAt es aA aG i:=fun k aH=>fresh _ _ (H.new k aH).1;refine fin (F.hold (aj e.h.next) di) ⟨H.w,fun b q5=>?_,fun k aH=>?_,fun k bj aH gZ he=>?_⟩ aR
       . have nm:b≠nameAt es aA aG i:=fun e=>q5 i ⟨_,cF,⟨a1,uf⟩,re,by omega⟩ e.symm;rw [TG b nm];exact H.bG b fun k aH=>q5 k (by obtain ⟨o,ar,av,aK,bU⟩:=aH;exact ⟨o,ar,av,aK,by omega⟩)
       . rcases I3 k aH with rfl | aH
         . refine ⟨by rw [ZW,ae],?_⟩;cases ag:az.ew (nameAt es aA aG k) with
           | none=>rfl
           | some ly=>
             exfalso;have:=H.bG (nameAt es aA aG k) fun bj gZ=>ne bj gZ;rw [ag] at this;exact fresh _ _ this rfl
         . rw [TG _ (ne k aH)];exact H.new k aH
       . rcases I3 k aH with rfl | aH<;>rcases I3 bj gZ with rfl | gZ
         . rfl
         . exact absurd he.symm (ne bj gZ)
         . exact absurd he (ne k aH)
         . exact H.inj k bj aH gZ he
      . refine pass bA fun _ hm=>hm ?_;rw [ki,bA,ud]
     | false=>
       have cl:fe P ops[i].op=false:=by unfold er at mv;rw [a1] at mv;simpa using mv
       exact pass (vL cl ad).1 fun h=>by rw [a1] at h;cases h
structure qG (P:Program) (az:Fr) (au:Nat) (ops:Array Oper) (es:List e8) (bq:bI) (aA:ai) (eE aG:List Nat) (fp:Env) (N:Nat) (D:List Deferred) (listed:Array Bool) (a:Act) (w:World):Prop where
 sY:listed.size=ops.size
 size:a.tmps.size=au
 defers:a.defers=D
 tF:∀k,listed.getD k false=true->posOf aG k<N
 down:qI ops fun k=>listed.getD k false=true
 main:∃E s F,fp.le E/\s ∈ eE/\s<=N/\(∀k o,ops[k]? =some o->er P o=true->(listed.getD k false=true↔posOf aG k<s))/\
  (∀k o,ops[k]? =some o->ha o=true->listed.getD k false=true->posOf aG k<s)/\Holds az F es aA aG (ks ops es aA aG listed s)/\bf F E (cq es aA s) w/\
  ∀t,t<=top->(∃k o e,listed.getD k false=true/\ops[k]? =some o/\o.dst=some t/\es[posOf aG k]? =some e/\Rel E e.v (a.tmps.getD t undef))\/
   ((∀k o,listed.getD k false=true->ops[k]? =some o->o.dst≠some t)/\Rel E (T.get .bad (aj t) bq) (a.tmps.getD t undef))
theorem tW {l:Array Bool} {i:Nat}:l.getD i false=true↔l[i]? =some true:=by
 rw [Array.getD_eq_getD_getElem?];cases l[i]? with
 | none=>simp
 | some b=>cases b<;>simp
theorem gh {l:Array Bool} {i k:Nat} (an:i<l.size):(l.setIfInBounds i true).getD k false=true↔(k=i\/l.getD k false=true):=by
 rw [tW,tW,Array.getElem?_setIfInBounds];by_cases h:i=k
 . subst h;simp [an]
 . have:¬k=i:=fun e=>h e.symm;simp [h,this]
theorem EG {r:bI} {t:Nat} (aw:t<=top):∀{l:List Oper},T.get .bad (aj t) (o5 r l)=.bad\/(T.get .bad (aj t) (o5 r l)=T.get .bad (aj t) r/\∀o ∈ l,o.dst≠some t)
 | []=>.inr ⟨rfl,fun o a6=>by simp at a6⟩
 | o::os=>by
   simp only [o5];cases bc:o.dst with
   | none=>
     simp only;rcases EG (r:=r) aw (l:=os) with h | ⟨aa,ad⟩
     . exact .inl h
     . exact .inr ⟨aa,fun ck hp=>by
        rcases List.mem_cons.1 hp with rfl | hp
        . rw [bc];simp
        . exact ad ck hp⟩
   | some d=>
     simp only;cases ae:Nat.ble d top with
     | true=>
       simp only [cond_true];rw [T.iy];by_cases wi:d=t
       . subst wi;rw [if_pos rfl];exact .inl rfl
       . rw [if_neg (fun e=>wi (fu e))];rcases EG (r:=r) aw (l:=os) with h | ⟨aa,ad⟩
         . exact .inl h
         . exact .inr ⟨aa,fun ck hp=>by
            rcases List.mem_cons.1 hp with rfl | hp
            . rw [bc];simpa using wi
            . exact ad ck hp⟩
     | false=>
       simp only [cond_false];have wi:d≠t:=fun e=>by subst e;rw [<-Nat.ble_eq] at aw;rw [aw] at ae;cases ae
       rcases EG (r:=r) aw (l:=os) with h | ⟨aa,ad⟩
       . exact .inl h
       . exact .inr ⟨aa,fun ck hp=>by
          rcases List.mem_cons.1 hp with rfl | hp
          . rw [bc];simpa using wi
          . exact ad ck hp⟩
theorem EF {r:bI}:∀{l:List Oper},T.get .bad e_ (o5 r l)=T.get .bad e_ r
 | []=>rfl
 | o::os=>by
   simp only [o5];cases bc:o.dst with
   | none=>exact EF
   | some d=>
     simp only;cases ae:Nat.ble d top with
     | true=>
       simp only [cond_true];rw [T.iy,if_neg (xf (Nat.le_of_ble_eq_true ae))];exact EF
     | false=>exact EF
theorem Rz {rd:Option Nat} {D:List Deferred} {az:Fr} (bJ:eT P) (c1:∀i,hi P (calls i)) (dN:∀i,hx P (calls i)) (C:Cert P au ops calls es bq aX dc aA eE order aG N M lit) {fp:Env} {listed:Array Bool} {a:Act} {w:World} (I:qG P az au ops es bq aA eE aG fp N D listed a w)
 {i:Nat} (an:i ∈ Region.ready .any ops listed) (afg:posOf aG i<M) (wv:lit=true->∀o k ok,ops[i]? =some o->lv o=true->ops[k]? =some ok->lv ok=true->posOf aG k<posOf aG i->listed.getD k false=true) {Q:Exit->Act->World->Prop} {K:Act->World->Prop} (dQ:∀bu ao,qG P az au ops es bq aA eE aG fp N D (listed.setIfInBounds i true) bu ao->K bu ao)
 (cO:∀ax bu ao x v ab,fp.le ax->N<ops.size->ops.size<=M->(∃i0 iC,ops[i0]? =some iC/\posOf aG i0=N/\(cK P au ops iC).run (calls i0) dc aA=.cT v ab)->RegRel0 ax au (o5 bq ops.toList) bu->bu.defers=D->Rel ax v x->bf az ax ab ao->Q (.panic (qu x)) bu ao):wpOpIn (cA rd) 0 P ops Q i K a w:=by
 rw [mem_ready] at an;obtain ⟨E,s,F,hn,aR,FE,my,eh,kE,rk,wG⟩:=I.main;obtain ⟨ug,o,cF,wj⟩:=an;have fZ:i<ops.size:=(Array.getElem?_eq_some_iff.1 cF).1;have uh:¬listed.getD i false=true:=by rw [tW];intro h;rw [Array.getD_eq_getD_getElem?,h] at ug;simp at ug
 have S0:=Cs I.down ops.toList [] (fun j=>by simp) (fun k m j aH=>by simp at aH);have yD:qI ops fun k=>listed.getD k false=true\/k=i:=by
  intro k ok e aH bK he ae;rcases aH with aH | rfl
  . exact .inl (I.down k ok e aH bK he ae)
  . rw [cF] at bK;cases bK;exact .inl (wj e (Array.mem_toList_iff.1 he) (by rw [x_];exact ae))
 have afw:=Cs yD ops.toList [] (fun j=>by simp) (fun k m j aH=>by simp at aH);obtain ⟨cV,mz,iR,Fy⟩:=C.kf i o cF;have Fy:=Fy afg;have JQ:=C.UX;have Br:∀k,k≠i->gl cV k=true->listed.getD k false=true:=by
  intro k aH ae;rcases afw i cV k mz ae (.inr rfl) with h | h
  . exact h
  . exact absurd h aH
 have jw:=(C.iE i fZ).1;have afQ:posOf aG i<=N:=by
  rcases Nat.lt_or_ge N (posOf aG i) with afc | hle
  . exfalso;have E3:ops.size<=M:=by
     rcases Nat.lt_or_ge M ops.size with h | h
     . have:=(C.tail h).1;omega
     . exact h
    obtain ⟨i0,iC,m0,b6,z2,z3,z4,z5,_⟩:=C.stop (by omega) E3;have ae:=z5 i o cV cF afc mz;have aa:=Br i0 (fun e=>by subst e;omega) ae;have:=I.tF i0 aa;omega
  . exact hle
 have uniq:∀(k bj:Nat) (ok iZ:Oper) (t:Nat),ops[k]? =some ok->ops[bj]? =some iZ->posOf aG k<M->posOf aG bj<M->ok.dst=some t->iZ.dst=some t->k=bj:=by
  intro k bj ok iZ t aa ad cb b9 aJ bE;obtain ⟨mk,_,_,ag⟩:=C.kf k ok aa;obtain ⟨mk',_,h6,_⟩:=ag cb bj iZ ad b9;unfold pw at h6;rw [ix] at h6;by_cases kF:k=bj
  . exact kF
  . rw [if_neg kF,bE,aJ] at h6;simp at h6
 have Wc:j_ (b7 ops o)=true->∀t ∈ b7 ops o,Rel E (T.get .bad (aj t) (ey es dc (posOf aG i))) (a.tmps.getD t undef):=by
  intro qf t aw;have y':t<=top:=by have:=List.all_eq_true.1 qf t aw;exact Nat.le_of_ble_eq_true this
  have Vt:∀(k:Nat) (ok:Oper),k≠i->posOf aG k<M->ops[k]? =some ok->ok.dst=some t->∃mk,(eZ [] ops.toList)[k]? =some mk/\(posOf aG k<posOf aG i->gl cV k=true)/\(¬posOf aG k<posOf aG i->gl mk i=true):=by
   intro k ok aH Km bK bc;obtain ⟨mk,ar,av,_⟩:=Fy k ok bK Km;refine ⟨mk,ar,?_⟩;unfold pw at av;rw [ix,if_neg (fun e=>aH e.symm),bc] at av;simp only [Bool.and_eq_true] at av;have aK:=av.1;rw [show (b7 ops o).contains t=true from by simpa using aw] at aK;simp only [cond_true] at aK;refine ⟨fun aO=>?_,fun jt=>?_⟩
   . rw [show Nat.blt (posOf aG k) (posOf aG i)=true from by rw [Nat.blt_eq];exact aO] at aK;exact aK
   . rw [show Nat.blt (posOf aG k) (posOf aG i)=false from by rw [<-Bool.not_eq_true,Nat.blt_eq];exact jt] at aK;exact aK
  rcases C.ME (posOf aG i) afQ t y' with ⟨k,ok,vN,ar,av,aK,bU,dV⟩ | ⟨ar,av⟩
  . obtain ⟨mk,_,c7,_⟩:=Vt k ok (fun e=>by subst e;omega) (by omega) av aK;have Fq:=Br k (fun e=>by subst e;omega) (c7 ar);rcases wG t y' with ⟨bj,iZ,Jp,bZ,bX,b_,gV,jg⟩ | ⟨bZ,_⟩
    . have:=uniq k bj ok iZ t av bX (by omega) (by have:=I.tF bj bZ;omega) aK b_;subst this;rw [bU] at gV;cases gV;rw [dV];exact jg
    . exact absurd aK (bZ k ok Fq av)
  . rcases wG t y' with ⟨bj,iZ,Jp,bZ,bX,b_,gV,jg⟩ | ⟨_,bX⟩
    . have g':bj≠i:=fun e=>uh (e ▸ bZ);obtain ⟨mk,m1,_,dq⟩:=Vt bj iZ g' (by have:=I.tF bj bZ;omega) bX b_;by_cases aO:posOf aG bj<posOf aG i
      . exact absurd b_ (ar bj iZ aO bX)
      . exact absurd (S0 bj mk i m1 (dq aO) bZ) uh
    . rw [av];exact bX
 have level:fe P o.op=true->s<=posOf aG i->s=posOf aG i/\ha o=false:=by
  intro lV hle;rcases C.Xg s aR with (h | ⟨h,E2⟩) | ⟨k,ok,bA,bx,c4⟩
  . omega
  . omega
  . have S6:¬listed.getD k false=true:=fun h=>by have:=(my k ok bA bx).1 h;omega
    have iQ:=(Array.getElem?_eq_some_iff.1 bA).1;by_cases g':k=i
    . subst g';rw [cF] at bA;cases bA;refine ⟨c4,?_⟩;unfold er at bx;simpa [lV] using bx
    . have aO:posOf aG k<posOf aG i:=by
       have:posOf aG k≠posOf aG i:=fun e=>g' (C.xi iQ fZ e);omega
      obtain ⟨mk,_,_,aK⟩:=Fy k ok bA (by omega);rcases aK lV bx aO with h | ⟨g1,g2,g3⟩
      . exact absurd (Br k g' h) S6
      . exact absurd (wv g1 o k ok cF g2 bA g3 aO) S6
 rcases Nat.lt_or_ge (posOf aG i) N with Kv | ap3
 case inr=>
  have j1:posOf aG i=N:=by omega
  have E3:ops.size<=M:=by
   rcases Nat.lt_or_ge M ops.size with h | h
   . have:=(C.tail h).1;omega
   . exact h
  obtain ⟨i0,iC,m0,b6,z2,z3,z4,z5,Dj,v,ab,NK⟩:=C.stop (by omega) E3;have afi:i0=i:=C.xi (Array.getElem?_eq_some_iff.1 b6).1 fZ (by rw [z2,j1]);subst afi;rw [cF] at b6;cases b6;rw [mz] at z4;cases z4;obtain ⟨lV,afC⟩:=UK z3;have yI:er P o=true:=by unfold er;rw [lV,afC];rfl
  have KY:s<=posOf aG i0:=by
   rcases Nat.lt_or_ge (posOf aG i0) s with h | h
   . exact absurd ((my i0 o cF yI).2 h) uh
   . exact h
  have y7:=(level lV KY).1;have sw:F=az:=kE.none fun k aH=>by
   obtain ⟨ok,ar,av,aK,bU⟩:=aH;have g':k≠i0:=fun e=>by subst e;omega
   exact aK (Br k g' (Dj k ok ar av.1 (by omega)))
  subst sw;have dI:es[N]? =none:=List.getElem?_eq_none (by rw [C.len];exact Nat.le_refl _);have k1:=Wc (Rr NK).2;rw [j1] at k1;simp only [ey,dI] at k1;rw [y7,j1] at rk;simp only [cq,dI] at rk;refine acJ bJ (c1 i0) (dN i0) cF NK z3 I.size k1 rk fun ax x ao ar av aK=>cO ax a ao x v ab (hn.trans ar) (by omega) E3 ⟨i0,o,cF,j1,NK⟩ ⟨I.size,fun t aw=>?_⟩ I.defers av aK;rcases EG (r:=bq) aw (l:=ops.toList) with h | ⟨aa,ad⟩
  . rw [h];simp [Rel]
  . rw [aa];rcases wG t aw with ⟨k,ok,vN,bZ,bX,b_,gV,jg⟩ | ⟨bZ,bX⟩
    . exact absurd b_ (ad ok (by rw [<-Array.getElem?_toList] at bX;exact List.mem_of_getElem? bX))
    . exact Rel.mono ar _ _ bX
 obtain ⟨e,o9,c2,aqc⟩:=C.step i o cF Kv;have gI:=kT c2;have eX:ey es dc (posOf aG i)=e.r:=by simp [ey,o9]
 have ju:cq es aA (posOf aG i)=e.h:=by simp [cq,o9]
 have reads:=Wc gI.2;rw [eX] at reads;have gK:i<listed.size:=by rw [I.sY];exact fZ
 have after:∀(hX:Nat) (fq:Fr) (ax:Env) (x:Value) (ao:World),hX ∈ eE->hX<=N->(∀k ok,ops[k]? =some ok->er P ok=true->((k=i\/listed.getD k false=true)↔posOf aG k<hX))->
  (∀k ok,ops[k]? =some ok->ha ok=true->(k=i\/listed.getD k false=true)->posOf aG k<hX)->
  Holds az fq es aA aG (ks ops es aA aG (listed.setIfInBounds i true) hX)->E.le ax->Rel ax e.v x->bf fq ax (cq es aA hX) ao->
  qG P az au ops es bq aA eE aG fp N D (listed.setIfInBounds i true) (a.put o.dst x) ao:=by
  intro hX fq ax x ao hH af9 eP aey afd hle ak af7;refine ⟨by simp [I.sY],by cases h:o.dst<;>simp [Act.put,I.size],by cases h:o.dst<;>simp [Act.put,I.defers],fun k aH=>by
   rcases (gh gK).1 aH with rfl | aH
   . exact Kv
   . exact I.tF k aH,?_,ax,hX,fq,hn.trans hle,hH,af9,fun k ok aa ad=>by rw [gh gK];exact eP k ok aa ad,
   fun k ok aa ad aJ=>aey k ok aa ad ((gh gK).1 aJ),afd,af7,fun t aw=>?_⟩
  . intro k ok cZ aH bK eW ae;rw [gh gK] at aH ⊢;rcases yD k ok cZ aH.symm bK eW ae with h | h
    . exact .inr h
    . exact .inl h
  . by_cases bc:o.dst=some t
    . refine .inl ⟨i,o,e,by rw [gh gK];exact .inl rfl,cF,bc,o9,?_⟩;have aO:t<a.tmps.size:=by
       have:=gI.1;rw [bc] at this;simp only [fa,Bool.and_eq_true,Nat.blt_eq] at this;rw [I.size];exact this.1
      rw [bc];simp only [Act.put];rw [Array.getD_eq_getD_getElem?,Array.getElem?_setIfInBounds,if_pos rfl,if_pos aO];exact ak
    . have dZ:(a.put o.dst x).tmps.getD t undef=a.tmps.getD t undef:=by
       cases afJ:o.dst with
       | none=>rfl
       | some d=>
         simp only [Act.put];rw [Array.getD_eq_getD_getElem?,Array.getD_eq_getD_getElem?,Array.getElem?_setIfInBounds,if_neg (fun e=>bc (by rw [afJ,e]))]
      rw [dZ];rcases wG t aw with ⟨k,ok,vN,bZ,bX,b_,gV,jg⟩ | ⟨bZ,bX⟩
      . exact .inl ⟨k,ok,vN,by rw [gh gK];exact .inr bZ,bX,b_,gV,Rel.mono hle _ _ jg⟩
      . refine .inr ⟨fun k ok aH bK=>?_,Rel.mono hle _ _ bX⟩;rw [gh gK] at aH;rcases aH with rfl | aH
        . rw [cF] at bK;cases bK;exact bc
        . exact bZ k ok aH bK
 have J':¬(ha o=true/\Made es aA aG i)->∀hX k,ks ops es aA aG (listed.setIfInBounds i true) hX k↔ks ops es aA aG listed hX k:=by
  intro a1 hX k;constructor
  . rintro ⟨ok,ar,av,aK,bU⟩;exact ⟨ok,ar,av,fun h=>aK ((gh gK).2 (.inr h)),bU⟩
  . rintro ⟨ok,ar,av,aK,bU⟩;refine ⟨ok,ar,av,fun h=>?_,bU⟩;rcases (gh gK).1 h with rfl | h
    . rw [cF] at ar;cases ar;exact a1 av
    . exact aK h
 cases lV:fe P o.op with
 | true=>
   cases a1:ha o with
   | true=>
     have aO:posOf aG i<s:=by
      rcases Nat.lt_or_ge (posOf aG i) s with h | h
      . exact h
      . have:=(level lV h).2;rw [a1] at this;cases this
     by_cases hm:Made es aA aG i
     case neg=>
      have KV:(cK P au ops o).run (calls i) e.r (cq es aA s)=.val e.v (cq es aA s):=by
       rcases Rt a1 c2 with ⟨di,bA,_⟩ | ⟨_,bA⟩
       . exact absurd (show Made es aA aG i from by unfold Made;rw [bA,ju];exact Nat.succ_ne_self _) hm
       . exact bA _
      refine qT bJ (c1 i) (dN i) cF KV I.size reads rk fun ax x ao ar av aK=>dQ _ _ (after s F ax x ao aR FE (fun k ok bK jZ=>?_) (fun k ok bK p8 aH=>?_) (kE.congr fun k=>J' (fun h=>hm h.2) s k) ar av aK)
      . constructor
        . rintro (rfl | h)
          . rw [cF] at bK;cases bK;unfold er at jZ;rw [a1] at jZ;simp at jZ
          . exact (my k ok bK jZ).1 h
        . intro h;exact .inr ((my k ok bK jZ).2 h)
      . rcases aH with rfl | aH
        . exact aO
        . exact eh k ok bK p8 aH
     have lq:ks ops es aA aG listed s i:=⟨o,cF,⟨a1,hm⟩,uh,aO⟩;have Ky:(cq es aA (posOf aG i+1)).next≠e.h.next:=by rw [<-ju];exact hm
     have mA:nameAt es aA aG i=aj e.h.next:=by unfold nameAt;rw [ju]
     have mC:=(kE.new i lq).1;have zb:=(kE.new i lq).2;have kC:AW es aA aG i=(cq es aA (posOf aG i+1)).get (aj e.h.next):=by unfold AW;rw [mA]
     rw [mA,kC] at mC;refine acH cF a1 c2 I.size reads rk Ky mC fun ax x ao ar av aK=>dQ _ _ (after s (F.free (aj e.h.next)) ax x ao aR FE (fun k ok bK jZ=>?_) (fun k ok bK p8 aH=>?_) ?_ ar av aK)
     . constructor
       . rintro (rfl | h)
         . rw [cF] at bK;cases bK;unfold er at jZ;rw [a1] at jZ;simp at jZ
         . exact (my k ok bK jZ).1 h
       . intro h;exact .inr ((my k ok bK jZ).2 h)
     . rcases aH with rfl | aH
       . exact aO
       . exact eh k ok bK p8 aH
     . have sub:∀k,ks ops es aA aG (listed.setIfInBounds i true) s k->ks ops es aA aG listed s k/\k≠i:=by
        rintro k ⟨ok,ar,av,aK,bU⟩;refine ⟨⟨ok,ar,av,fun h=>aK ((gh gK).2 (.inr h)),bU⟩,fun e=>aK ((gh gK).2 (.inl e))⟩
       refine ⟨kE.w,fun b ae=>?_,fun k aH=>?_,fun k bj aH gZ=>kE.inj k bj (sub k aH).1 (sub bj gZ).1⟩
       . by_cases nm:b=aj e.h.next
         . subst nm;simp only [Fr.free,if_true];rw [<-mA,zb]
         . simp only [Fr.free,if_neg nm];refine kE.bG b fun k aH=>?_;by_cases g':k=i
           . subst g';rw [mA];exact fun e=>nm e.symm
           . obtain ⟨ok,ar,av,aK,bU⟩:=aH;refine ae k ⟨ok,ar,av,fun h=>?_,bU⟩;rcases (gh gK).1 h with h | h
             . exact g' h
             . exact aK h
       . obtain ⟨SV,g'⟩:=sub k aH;have cl:nameAt es aA aG k≠aj e.h.next:=fun e=>g' (kE.inj k i SV lq (by rw [e,mA]))
         simp only [Fr.free,if_neg cl];exact kE.new k SV
   | false=>
     have yI:er P o=true:=by unfold er;rw [lV,a1];rfl
     have KY:s<=posOf aG i:=by
      rcases Nat.lt_or_ge (posOf aG i) s with h | h
      . exact absurd ((my i o cF yI).2 h) uh
      . exact h
     have y7:=(level lV KY).1;rw [<-ju,<-y7] at c2;refine qT bJ (c1 i) (dN i) cF c2 I.size reads rk fun ax x ao ar av aK=>?_;rw [y7] at aK;have afu:∀k ok,ops[k]? =some ok->ha ok=true->posOf aG i+1<=posOf aG k->¬(listed.setIfInBounds i true).getD k false=true:=by
      intro k ok bK p8 ag h;rcases (gh gK).1 h with rfl | h
      . omega
      . have:=eh k ok bK p8 h;omega
     have aff:Holds az F es aA aG (ks ops es aA aG (listed.setIfInBounds i true) (posOf aG i+1)):=by
      refine kE.congr fun k=>?_;rw [J' (fun h=>by rw [a1] at h;cases h.1)];constructor
      . rintro ⟨ok,b6,z2,z3,z4⟩;refine ⟨ok,b6,z2,z3,?_⟩;have iQ:=(Array.getElem?_eq_some_iff.1 b6).1;have:posOf aG k≠posOf aG i:=fun e=>by
         have:=C.xi iQ fZ e;subst this;rw [cF] at b6;cases b6;rw [a1] at z2;cases z2.1
        omega
      . rintro ⟨ok,b6,z2,z3,z4⟩;exact ⟨ok,b6,z2,z3,by omega⟩
     obtain ⟨hX,fq,g1,g2,g3,g4,g5,g6⟩:=C.advance (N - (posOf aG i+1)) (posOf aG i+1) (by omega) afu F aff aK;refine dQ _ _ (after hX fq ax x ao g1 g3 (fun k ok bK jZ=>?_) (fun k ok bK p8 aH=>?_) g5 ar av g6)
     . have iQ:=(Array.getElem?_eq_some_iff.1 bK).1;constructor
       . rintro (rfl | h)
         . omega
         . have:=(my k ok bK jZ).1 h;omega
       . intro h;by_cases g':k=i
         . exact .inl g'
         . refine .inr ((my k ok bK jZ).2 ?_);rcases Nat.lt_or_ge (posOf aG k) s with bl | bl
           . exact bl
           . have cl:posOf aG k≠posOf aG i:=fun e=>g' (C.xi iQ fZ e);have:=g4 k ok bK jZ (by omega);omega
     . rcases aH with rfl | aH
       . omega
       . have:=eh k ok bK p8 aH;omega
 | false=>
   have a1:ha o=false:=by
    cases h:ha o with
    | false=>rfl
    | true=>rw [ag1 h] at lV;cases lV
   obtain ⟨c,aD,KV⟩:∃c,(hi P c/\hx P c)/\(cK P au ops o).run c e.r (cq es aA s)=.val e.v (cq es aA s):=by
    cases eD:looks o.op with
    | false=>exact ⟨_,⟨c1 i,dN i⟩,(vL lV c2).2 eD _⟩
    | true=>
      obtain ⟨cZ,ar,av⟩:=C.ask i o cF eD lV Kv;rw [o9] at ar;cases ar;obtain ⟨c,ab,aD,aK⟩:=av s aR (NL (by rw [LI];simp) fun k mk ok aa ad=>by
       simp only [Nat.zero_add];have bK:ops[k]? =some ok:=by simpa using ad
       cases wy:er P ok with
       | false=>rfl
       | true=>
         simp only [cond_true];cases f':Nat.blt (posOf aG k) s with
         | true=>
           rw [Nat.blt_eq] at f';simp only [cond_true,Bool.not_eq_true'];cases ae:gl mk i with
           | false=>rfl
           | true=>exact absurd (S0 k mk i aa ae ((my k ok bK wy).2 f')) uh
         | false=>
           have afr:¬posOf aG k<s:=by rw [<-Nat.blt_eq,f'];simp
           simp only [cond_false,Bool.not_eq_true',mz,Option.getD_some];cases ae:gl cV k with
           | false=>rfl
           | true=>
             by_cases g':k=i
             . subst g';rw [cF] at bK;cases bK;unfold er at wy;rw [lV] at wy;cases wy
             . exact absurd ((my k ok bK wy).1 (Br k g' ae)) afr)
      rw [(vL lV aK).1] at aK;exact ⟨c,aD,aK⟩
   refine qT bJ aD.1 aD.2 cF KV I.size reads rk fun ax x ao ar av aK=>dQ _ _ (after s F ax x ao aR FE (fun k ok bK jZ=>?_) (fun k ok bK p8 aH=>?_) (kE.congr fun k=>J' (fun h=>by rw [a1] at h;cases h.1) s k) ar av aK)
   . constructor
     . rintro (rfl | h)
       . rw [cF] at bK;cases bK;unfold er at jZ;rw [lV] at jZ;cases jZ
       . exact (my k ok bK jZ).1 h
     . intro h;exact .inr ((my k ok bK jZ).2 h)
   . rcases aH with rfl | aH
     . rw [cF] at bK;cases bK;rw [a1] at p8;cases p8
     . exact eh k ok bK p8 aH
theorem Rq {D:List Deferred} {az:Fr} (C:Cert P au ops calls es bq aX dc aA eE order aG N M lit) {fp:Env} (JQ:N<=M) {listed:Array Bool} {a:Act} {w:World} (I:qG P az au ops es bq aA eE aG fp N D listed a w)
 (eh:∀k,k<ops.size->posOf aG k<N->listed.getD k false=true):∃ax,fp.le ax/\RegRel0 ax au dc a/\a.defers=D/\bf az ax aA w:=by
 obtain ⟨E,s,F,hn,aR,FE,my,_,kE,rk,wG⟩:=I.main;have dI:es[N]? =none:=List.getElem?_eq_none (by rw [C.len];exact Nat.le_refl _);have q':cq es aA N=aA:=by simp [cq,dI]
 have Tg:ey es dc N=dc:=by simp [ey,dI]
 have y7:s=N:=by
  rcases C.Xg s aR with (h | ⟨h,_⟩) | ⟨k,ok,bA,bx,c4⟩
  . have:=C.CA;omega
  . exact h
  . rcases Nat.lt_or_ge s N with aO | jt
    . have:=(my k ok bA bx).1 (eh k (Array.getElem?_eq_some_iff.1 bA).1 (by omega));omega
    . omega
 subst y7;have sw:F=az:=kE.none fun k aH=>by obtain ⟨ok,ar,av,aK,bU⟩:=aH;exact aK (eh k (Array.getElem?_eq_some_iff.1 ar).1 bU)
 subst sw;rw [q'] at rk;have E2:∀k,posOf aG k<s->posOf aG k<M:=fun k h=>by omega
 refine ⟨E,hn,⟨I.size,fun t aw=>?_⟩,I.defers,rk⟩;have agj:∀(k bj:Nat) (ok iZ:Oper),ops[k]? =some ok->ops[bj]? =some iZ->posOf aG k<s->posOf aG bj<s->ok.dst=some t->iZ.dst=some t->k=bj:=by
  intro k bj ok iZ aa ad cb b9 aJ bE;obtain ⟨mk,_,_,ag⟩:=C.kf k ok aa;obtain ⟨mk',_,h6,_⟩:=ag (E2 k cb) bj iZ ad (E2 bj b9);unfold pw at h6;rw [ix] at h6;by_cases kF:k=bj
  . exact kF
  . rw [if_neg kF,bE,aJ] at h6;simp at h6
 rcases C.ME s (Nat.le_refl _) t aw with ⟨k,ok,vN,ar,av,aK,bU,dV⟩ | ⟨ar,av⟩
 . rw [Tg] at dV;rcases wG t aw with ⟨bj,iZ,Jp,bZ,bX,b_,gV,jg⟩ | ⟨bZ,_⟩
   . have:=agj k bj ok iZ av bX ar (I.tF bj bZ) aK b_;subst this;rw [bU] at gV;cases gV;rw [dV];exact jg
   . exact absurd aK (bZ k ok (eh k (Array.getElem?_eq_some_iff.1 av).1 ar) av)
 . rw [Tg] at av;rcases wG t aw with ⟨bj,iZ,Jp,bZ,bX,b_,gV,jg⟩ | ⟨_,bX⟩
   . exact absurd b_ (ar bj iZ (I.tF bj bZ) bX)
   . rw [av];exact bX
theorem Ry {rd:Option Nat} {D:List Deferred} {az:Fr} (bJ:eT P) (c1:∀i,hi P (calls i)) (dN:∀i,hx P (calls i)) (C:Cert P au ops calls es bq aX dc aA eE order aG N M false) {fp:Env} {Q:Exit->Act->World->Prop}
 (cO:N=ops.size->∀ax bu ao,fp.le ax->RegRel0 ax au dc bu->bu.defers=D->bf az ax aA ao->Q .normal bu ao)
 (iN:∀ax bu ao x v ab,fp.le ax->N<ops.size->ops.size<=M->(∃i0 iC,ops[i0]? =some iC/\posOf aG i0=N/\(cK P au ops iC).run (calls i0) dc aA=.cT v ab)->RegRel0 ax au (o5 bq ops.toList) bu->bu.defers=D->Rel ax v x->bf az ax ab ao->Q (.panic (qu x)) bu ao)
 (dz:M<ops.size->∀(fuel:Nat) (listed:Array Bool) ax bu ao,(List.range ops.size).countP (fun i=>!listed.getD i false)<=fuel->listed.size=ops.size->qI ops (fun k=>listed.getD k false=true)->(∀k,k<ops.size->(listed.getD k false=true↔posOf aG k<N))->
   fp.le ax->RegRel0 ax au dc bu->bu.defers=D->bf az ax aA ao->wpAnyIn (cA rd) 0 P .any ops Q fuel listed bu ao):∀(fuel:Nat) (listed:Array Bool) (a:Act) (w:World),(List.range ops.size).countP (fun i=>!listed.getD i false)<=fuel->
 qG P az au ops es bq aA eE aG fp N D listed a w->wpAnyIn (cA rd) 0 P .any ops Q fuel listed a w:=by
 have done:∀(listed:Array Bool) (a:Act) (w:World),qG P az au ops es bq aA eE aG fp N D listed a w->Region.ready .any ops listed=[]->∀i,i<ops.size->listed.getD i false=true:=by
  intro listed a w I aF i
  induction i using Nat.strongRecOn with
  | _ i br=>
    intro an;cases gK:listed.getD i false with
    | true=>rfl
    | false=>
      exfalso;have cF:ops[i]? =some ops[i]:=Array.getElem?_eq_getElem an;obtain ⟨cV,_,iR,_⟩:=C.kf i _ cF;have:i ∈ Region.ready .any ops listed:=by
       rw [mem_ready];refine ⟨?_,ops[i],cF,fun e he ae=>?_⟩
       . have cr:i<listed.size:=by rw [I.sY];exact an
         rw [Array.getD_eq_getD_getElem?,Array.getElem?_eq_getElem cr] at gK ⊢;exact gK
       . have aa:=List.all_eq_true.1 iR e (Array.mem_toList_iff.2 he);rw [x_] at ae;rw [ae] at aa;simp only [Bool.not_true,Bool.false_or,Nat.blt_eq] at aa;exact br e.on aa (by omega)
      rw [aF] at this;simp at this
 have JQ:=C.UX;have full:∀(listed:Array Bool) (a:Act) (w:World),qG P az au ops es bq aA eE aG fp N D listed a w->(∀k,k<ops.size->posOf aG k<N->listed.getD k false=true)->(N=ops.size\/(M<ops.size/\M=N))->
  ∃ax,fp.le ax/\RegRel0 ax au dc a/\a.defers=D/\bf az ax aA w:=fun _ _ _ I eh _=>Rq C JQ I eh
 have finish:∀(listed:Array Bool) (a:Act) (w:World),qG P az au ops es bq aA eE aG fp N D listed a w->Region.ready .any ops listed=[]->Q .normal a w:=by
  intro listed a w I aF;have eh:=done listed a w I aF;have JR:N=ops.size:=by
   rcases Nat.lt_or_ge N ops.size with aO | jt
   . exfalso;obtain ⟨i,Bx,oi⟩:=C.lE N aO;have:=I.tF i (eh i Bx);omega
   . exact Nat.le_antisymm C.CA jt
  obtain ⟨ax,g1,g2,g3,g4⟩:=full listed a w I (fun k aH _=>eh k aH) (.inl JR);exact cO JR ax a w g1 g2 g3 g4
 intro fuel
 induction fuel with
 | zero=>
   intro listed a w aD I;have eh:∀i,i<ops.size->listed.getD i false=true:=by
    intro i an;have aX:(List.range ops.size).countP (fun i=>!listed.getD i false)=0:=by omega
    rw [List.countP_eq_zero] at aX;simpa using aX i (List.mem_range.2 an)
   have aF:Region.ready .any ops listed=[]:=by
    cases aC:Region.ready .any ops listed with
    | nil=>rfl
    | cons j ag9=>
      exfalso;have aU:j ∈ Region.ready .any ops listed:=by rw [aC];simp
      rw [mem_ready] at aU;obtain ⟨aa,o,ad,_⟩:=aU;have:=eh j (Array.getElem?_eq_some_iff.1 ad).1;rw [tW] at this;rw [Array.getD_eq_getD_getElem?,this] at aa;simp at aa
   exact ⟨aF,finish listed a w I aF⟩
 | succ fuel br=>
   intro listed a w aD I;by_cases FF:M<ops.size/\∀k,k<ops.size->posOf aG k<N->listed.getD k false=true
   . obtain ⟨v_,eh⟩:=FF;obtain ⟨ax,g1,g2,g3,g4⟩:=full listed a w I eh (.inr ⟨v_,(C.tail v_).1⟩);exact dz v_ (fuel+1) listed ax a w aD I.sY I.down (fun k aH=>⟨I.tF k,eh k aH⟩) g1 g2 g3 g4
   have BQ:∀i,i ∈ Region.ready .any ops listed->posOf aG i<M:=by
    intro i an;have oi:=an;rw [mem_ready] at oi;obtain ⟨aa,o,ad,wj⟩:=oi;have fZ:i<ops.size:=(Array.getElem?_eq_some_iff.1 ad).1;rcases Nat.lt_or_ge M ops.size with v_ | v_
    . obtain ⟨E2,y8⟩:=C.tail v_;rcases Nat.lt_or_ge (posOf aG i) N with aO | jt
      . omega
      . exfalso;refine FF ⟨v_,fun k aH Kn=>?_⟩;obtain ⟨cV,mz,_⟩:=C.kf i o ad;have ae:=y8 i o cV ad jt mz k aH Kn;have yD:qI ops fun k=>listed.getD k false=true\/k=i:=by
         intro k ok e aH bK he ae;rcases aH with aH | rfl
         . exact .inl (I.down k ok e aH bK he ae)
         . rw [ad] at bK;cases bK;exact .inl (wj e (Array.mem_toList_iff.1 he) (by rw [x_];exact ae))
        rcases Cs yD ops.toList [] (fun j=>by simp) (fun k m j aH=>by simp at aH) i cV k mz ae (.inr rfl) with h | h
        . exact h
        . subst h;omega
    . have:=(C.iE i fZ).1;omega
   refine ⟨fun aF=>finish listed a w I aF,fun i an=>?_⟩;refine Rz bJ c1 dN C I an (BQ i an) (fun h=>by cases h) (fun bu ao HD=>br _ bu ao ?_ HD) iN;have oi:=an;rw [mem_ready] at oi;obtain ⟨aa,o,ad,_⟩:=oi;have fZ:i<ops.size:=(Array.getElem?_eq_some_iff.1 ad).1;have gK:i<listed.size:=by rw [I.sY];exact fZ
   have uh:listed.getD i false=false:=by rw [Array.getD_eq_getD_getElem?,Array.getElem?_eq_getElem gK] at aa ⊢;exact aa
   have:=Eu (fun k=>!listed.getD k false) (fun k=>!(listed.setIfInBounds i true).getD k false) (List.range ops.size)
    (fun k _ aH=>by
      simp only [Bool.not_eq_true'] at aH ⊢;cases aC:listed.getD k false with
      | false=>rfl
      | true=>
        have:=(gh (k:=k) gK).2 (.inr aC);rw [aH] at this;cases this)
    ⟨i,List.mem_range.2 fZ,by simp [uh],by have:=(gh (k:=i) gK).2 (.inl rfl);simp [this]⟩
   omega
theorem ai.set_comm (h:ai) {b bL:aQ} (cl:b≠bL) (k bj:cf):(h.set b k).set bL bj=(h.set bL bj).set b k:=by unfold ai.set;simp only;rw [T.put_comm _ _ _ _ _ _ (fun e=>cl e.symm)]
theorem M9 {o:Oper} {x:Operand} (h:td o=some x):∃t y,o.op=.store t x y/\o.dst=none/\o.guard=none:=by
 unfold td at h
 split at h
 case h_2=>cases h
 rename_i t X1 y a6
 split at h
 case h_2=>cases h
 rename_i bc
 split at h
 case h_2=>cases h
 rename_i aB;cases h;exact ⟨t,y,a6,bc,aB⟩
theorem ajz {h ab:ai} {b:aQ} {off:Nat} {ah:List V} (he:lay h b off ah=some ab):∃k,ab=h.set b k/\∀H:ai,H.get b=h.get b->lay H b off ah=some (H.set b k):=by
 unfold lay at he ⊢;cases aB:h.get b<;>rw [aB] at he<;>simp only [cf.on] at he<;>try (cases he;done)
 obtain ⟨aD,aa⟩:=eI he;cases aa;refine ⟨_,rfl,fun H lq=>?_⟩;rw [lq];simp only [cf.on,aD,cond_true]
theorem Rv {all:Array Oper} {o:Oper} {x:Operand} {call:dU} {r:bI} {h ab:ai} {v:V} (ak:td o=some x) (he:(cK P au all o).run call r h=.val v ab):
 ∃b off k,(bT x).run (dA r (b7 all o))=.ptr b off/\ab=h.set b k/\∀H:ai,H.get b=h.get b->(cK P au all o).run call r H=.val v (H.set b k):=by
 obtain ⟨t,y,a6,bc,aB⟩:=M9 ak;obtain ⟨aa,ad⟩:=kT he;have key:cK P au all o=⟨jr none (fD P o) (b7 all o)⟩:=by unfold cK;rw [show (fa au o.dst&&j_ (b7 all o))=true from by rw [aa,ad];rfl,aB];rfl
 rw [key] at he ⊢;simp only [jr] at he ⊢;have we:∀H,(fD P o).run call (dA r (b7 all o)) H=hr .bad ((tc P t).run H ((bT x).run (dA r (b7 all o))) ((bT y).run (dA r (b7 all o)))):=by intro H;unfold fD;rw [a6]
 rw [we] at he;cases aR:(tc P t).run h ((bT x).run (dA r (b7 all o))) ((bT y).run (dA r (b7 all o))) with
 | none=>rw [aR] at he;cases he
 | some aJ=>
   rw [aR] at he;simp only [hr,a8.val.injEq] at he;obtain ⟨rfl,rfl⟩:=he;unfold tc at aR;cases aw:a_ P t with
   | none=>rw [aw] at aR;cases aR
   | some aS=>
     rw [aw] at aR;simp only [pI] at aR;obtain ⟨b,off,ag,bE⟩:=zE aR;obtain ⟨aD,dn⟩:=eI bE;obtain ⟨k,bA,bx⟩:=ajz dn;refine ⟨b,off,k,ag,bA,fun H lq=>?_⟩;rw [we];unfold tc;rw [aw];simp only [pI,ag,V.jz,aD,cond_true,bx H lq,hr]
theorem zM {listed:Array Bool} (iR:∀i o,ops[i]? =some o->mP i o=true) (cr:listed.size=ops.size) (aF:Region.ready .any ops listed=[]):∀i,i<ops.size->listed.getD i false=true:=by
 intro i
 induction i using Nat.strongRecOn with
 | _ i br=>
   intro an;cases gK:listed.getD i false with
   | true=>rfl
   | false=>
     exfalso;have cF:ops[i]? =some ops[i]:=Array.getElem?_eq_getElem an;have iR:=iR i _ cF;have:i ∈ Region.ready .any ops listed:=by
      rw [mem_ready];refine ⟨?_,ops[i],cF,fun e he ae=>?_⟩
      . have aR:i<listed.size:=by rw [cr];exact an
        rw [Array.getD_eq_getD_getElem?,Array.getElem?_eq_getElem aR] at gK ⊢;exact gK
      . have aa:=List.all_eq_true.1 iR e (Array.mem_toList_iff.2 he);rw [x_] at ae;rw [ae] at aa;simp only [Bool.not_true,Bool.false_or,Nat.blt_eq] at aa;exact br e.on aa (by omega)
     rw [aF] at this;simp at this
theorem xo {listed:Array Bool} {i:Nat} (aps:listed.size=ops.size) (an:i ∈ Region.ready .any ops listed):i<ops.size/\¬listed.getD i false=true:=by rw [mem_ready] at an;obtain ⟨aa,o,ad,_⟩:=an;refine ⟨(Array.getElem?_eq_some_iff.1 ad).1,fun h=>?_⟩;rw [tW] at h;rw [Array.getD_eq_getD_getElem?,h] at aa;simp at aa
theorem Nf {rd:Option Nat} {az:Fr} (bJ:eT P) (c1:hi P call) (dN:hx P call) (iR:∀i o,ops[i]? =some o->mP i o=true) {i:Nat} {o:Oper} (cF:ops[i]? =some o) (bc:o.dst=none) {r:bI} {h ab:ai} {v:V}
 (he:(cK P au ops o).run call r h=.val v ab) {Q:Exit->Act->World->Prop} {E:Env} {a:Act} {w:World} (k:fL E au r a) (s:bf az E h w) (cO:∀ax ao,E.le ax->bf az ax ab ao->Q .normal a ao)
 {listed:Array Bool} (cr:listed.size=ops.size) (eh:∀j,j<ops.size->(listed.getD j false=true↔j≠i)) (fuel:Nat) (aA:1<=fuel):wpAnyIn (cA rd) 0 P .any ops Q fuel listed a w:=by
 have fZ:i<ops.size:=(Array.getElem?_eq_some_iff.1 cF).1;have gK:i<listed.size:=by rw [cr];exact fZ
 cases fuel with
 | zero=>omega
 | succ fuel=>
   refine ⟨fun aF=>absurd (zM iR cr aF i fZ) (fun h=>((eh i fZ).1 h) rfl),fun j aU=>?_⟩;obtain ⟨Cd,wU⟩:=xo cr aU;have jY:j=i:=by
    rcases Nat.decEq j i with cl | he
    . exact absurd ((eh j Cd).2 cl) wU
    . exact he
   subst jY;refine qT bJ c1 dN cF he k.size (fun t aw=>k.aq t (Nat.le_of_ble_eq_true (List.all_eq_true.1 (kT he).2 t aw))) s fun ax x ao ar av aK=>?_;rw [bc];refine wpAnyIn_done ?_ (cO ax ao ar aK) fuel;cases aF:Region.ready .any ops (listed.setIfInBounds j true) with
   | nil=>rfl
   | cons m ms=>
     exfalso;have hm:m ∈ Region.ready .any ops (listed.setIfInBounds j true):=by rw [aF];simp
     obtain ⟨m1,m2⟩:=xo (by simp [cr]) hm;refine m2 ((gh gK).2 ?_);by_cases S2:m=j
     . exact .inl S2
     . exact .inr ((eh m m1).2 S2)
theorem anQ {rd:Option Nat} {az:Fr} (bJ:eT P) (c1:hi P call) (dN:hx P call) (iR:∀i o,ops[i]? =some o->mP i o=true) {i j:Nat} {o p:Oper} (cF:ops[i]? =some o) (oj:ops[j]? =some p) (np:i≠j) (bc:o.dst=none) (mC:p.dst=none)
 {r:bI} {h aa gz ad:ai} {v c9 u gW:V} (he:(cK P au ops o).run call r h=.val v aa) (ag:(cK P au ops p).run call r aa=.val u ad) (gL:(cK P au ops p).run call r h=.val gW gz) (eW:(cK P au ops o).run call r gz=.val c9 ad)
 {Q:Exit->Act->World->Prop} {E:Env} {a:Act} {w:World} (k:fL E au r a) (s:bf az E h w) (cO:∀ax ao,E.le ax->bf az ax ad ao->Q .normal a ao)
 {listed:Array Bool} (cr:listed.size=ops.size) (eh:∀m,m<ops.size->(listed.getD m false=true↔(m≠i/\m≠j))) (fuel:Nat) (aA:2<=fuel):wpAnyIn (cA rd) 0 P .any ops Q fuel listed a w:=by
 have fZ:i<ops.size:=(Array.getElem?_eq_some_iff.1 cF).1;have Fj:j<ops.size:=(Array.getElem?_eq_some_iff.1 oj).1;have k1:∀{q:Oper} {H fh:ai} {z:V},(cK P au ops q).run call r H=.val z fh->∀t ∈ b7 ops q,Rel E (T.get .bad (aj t) r) (a.tmps.getD t undef):=
  fun he t aw=>k.aq t (Nat.le_of_ble_eq_true (List.all_eq_true.1 (kT he).2 t aw))
 cases fuel with
 | zero=>omega
 | succ fuel=>
   refine ⟨fun aF=>absurd (zM iR cr aF i fZ) (fun h=>((eh i fZ).1 h).1 rfl),fun m hm=>?_⟩;obtain ⟨m1,m2⟩:=xo cr hm;have ie:m=i\/m=j:=by
    rcases Nat.decEq m i with cl | he
    . rcases Nat.decEq m j with afE | et
      . exact absurd ((eh m m1).2 ⟨cl,afE⟩) m2
      . exact .inr et
    . exact .inl he
   rcases ie with rfl | rfl
   . refine qT bJ c1 dN cF he k.size (k1 he) s fun ax x ao ar av aK=>?_;rw [bc];have gK:m<listed.size:=by rw [cr];exact fZ
     refine Nf bJ c1 dN iR oj mC ag (k.mono ar) aK (fun cp b0 bZ bX=>cO cp b0 (ar.trans bZ) bX) (by simp [cr]) (fun z bn=>?_) fuel (by omega);rw [gh gK,eh z bn];constructor
     . rintro (rfl | h)
       . exact np
       . exact h.2
     . intro h;by_cases B5:z=m
       . exact .inl B5
       . exact .inr ⟨B5,h⟩
   . refine qT bJ c1 dN oj gL k.size (k1 gL) s fun ax x ao ar av aK=>?_;rw [mC];have gK:m<listed.size:=by rw [cr];exact Fj
     refine Nf bJ c1 dN iR cF bc eW (k.mono ar) aK (fun cp b0 bZ bX=>cO cp b0 (ar.trans bZ) bX) (by simp [cr]) (fun z bn=>?_) fuel (by omega);rw [gh gK,eh z bn];constructor
     . rintro (rfl | h)
       . exact fun e=>np e.symm
       . exact h.1
     . intro h;by_cases B5:z=m
       . exact .inl B5
       . exact .inr ⟨h,B5⟩
theorem XX {rd:Option Nat} {id:Nat} {a:Act} {w:World} {Q:Exit->Act->World->Prop} (hm:P.follows .mixedOrders=true)
 (h:wpAnyIn (cA rd) 0 P .any ops Q ops.size (Array.replicate ops.size false) a {w with drawn:=w.drawn+1}):(Code.region id ops true).wpIn (cA rd) 0 P Q a w:=by
 refine wpIn_region_draw fun t=>?_;rw [hm];exact wpAnyIn_sound _ _ _ _ _ h
theorem Np {r bD:bI}:∀{rs:List Nat},(∀t ∈ rs,T.get .bad (aj t) bD=T.get .bad (aj t) r)->dA bD rs=dA r rs
 | [],_=>rfl
 | t::cQ,h=>by simp only [dA];rw [h t (by simp),Np (rs:=cQ) fun u hu=>h u (by simp [hu])]
theorem acF {all:Array Oper} {o:Oper} {call:dU} {r bD:bI} (h:∀t ∈ b7 all o,T.get .bad (aj t) bD=T.get .bad (aj t) r) (H:ai):(cK P au all o).run call bD H=(cK P au all o).run call r H:=by
 unfold cK;cases aD:(fa au o.dst&&j_ (b7 all o)) with
 | false=>rfl
 | true=>
   simp only [cond_true];cases aB:o.guard with
   | none=>simp only [jr,Np h]
   | some qh=>
     obtain ⟨j,want⟩:=qh;simp only;cases all[j]? with
     | none=>rfl
     | some g=>
       simp only;cases g.dst with
       | none=>rfl
       | some d=>
         simp only;cases (Nat.blt d au&&Nat.ble d top) with
         | false=>rfl
         | true=>simp only [cond_true,jr,Np h]
theorem anP {rd:Option Nat} {az:Fr} (bJ:eT P) (c1:hi P call) (dN:hx P call) (iR:∀i o,ops[i]? =some o->mP i o=true) {l i j:Nat} {b o p:Oper} (rb:ops[l]? =some b) (cF:ops[i]? =some o) (oj:ops[j]? =some p)
 (gK:l≠i) (SX:l≠j) (np:i≠j) (bc:o.dst=none) (mC:p.dst=none) {r bw:bI} {h aa gz ad:ai} {z v c9 u gW:V}
 (ae:∀H,(cK P au ops b).run call r H=.val z H) (sJ:bw=(ga b.dst).run r z) (y5:∀t ∈ b7 ops p,T.get .bad (aj t) bw=T.get .bad (aj t) r)
 (he:(cK P au ops o).run call bw h=.val v aa) (ag:(cK P au ops p).run call bw aa=.val u ad) (gL:(cK P au ops p).run call bw h=.val gW gz) (eW:(cK P au ops o).run call bw gz=.val c9 ad)
 {Q:Exit->Act->World->Prop} {E:Env} {a:Act} {w:World} (k:fL E au r a) (s:bf az E h w) (cO:∀ax bu ao,E.le ax->fL ax au bw bu->bf az ax ad ao->Q .normal bu ao)
 {listed:Array Bool} (cr:listed.size=ops.size) (v8:qI ops fun k=>listed.getD k false=true) (agv:∀cV,(eZ [] ops.toList)[i]? =some cV->gl cV l=true) (mz:∃cV,(eZ [] ops.toList)[i]? =some cV)
 (eh:∀m,m<ops.size->(listed.getD m false=true↔(m≠l/\m≠i/\m≠j))) (fuel:Nat) (aA:3<=fuel):wpAnyIn (cA rd) 0 P .any ops Q fuel listed a w:=by
 have ue:l<ops.size:=(Array.getElem?_eq_some_iff.1 rb).1;have fZ:i<ops.size:=(Array.getElem?_eq_some_iff.1 cF).1;have Fj:j<ops.size:=(Array.getElem?_eq_some_iff.1 oj).1;have k1:∀{E:Env} {a:Act} {q:Oper} {R:bI} {H fh:ai} {z:V},fL E au R a->(cK P au ops q).run call R H=.val z fh->∀t ∈ b7 ops q,Rel E (T.get .bad (aj t) R) (a.tmps.getD t undef):=
  fun k he t aw=>k.aq t (Nat.le_of_ble_eq_true (List.all_eq_true.1 (kT he).2 t aw))
 have U1:∀(L:Array Bool),(qI ops fun k=>L.getD k false=true)->¬L.getD l false=true->i ∈ Region.ready .any ops L->False:=by
  intro L aek ug yU;rw [mem_ready] at yU;obtain ⟨_,ck,hp,wj⟩:=yU;rw [cF] at hp;cases hp;obtain ⟨cV,mz⟩:=mz;have yD:qI ops fun k=>L.getD k false=true\/k=i:=by
   intro k ok e aH bK he ae;rcases aH with aH | rfl
   . exact .inl (aek k ok e aH bK he ae)
   . rw [cF] at bK;cases bK;exact .inl (wj e (Array.mem_toList_iff.1 he) (by rw [x_];exact ae))
  rcases Cs yD ops.toList [] (fun j=>by simp) (fun k m j aH=>by simp at aH) i cV l mz (agv cV mz) (.inr rfl) with h | h
  . exact ug h
  . exact gK h
 have acK:∀m,m ∈ Region.ready .any ops listed->qI ops fun k=>(listed.setIfInBounds m true).getD k false=true:=by
  intro m hm k ok e aH bK he ae;have pa:=hm;rw [mem_ready] at pa;obtain ⟨_,aqQ,S9,wj⟩:=pa;have afy:m<listed.size:=by rw [cr];exact (Array.getElem?_eq_some_iff.1 S9).1
  rw [gh afy] at aH ⊢;rcases aH with rfl | aH
  . rw [S9] at bK;cases bK;exact .inr (wj e (Array.mem_toList_iff.1 he) (by rw [x_];exact ae))
  . exact .inr (v8 k ok e aH bK he ae)
 cases fuel with
 | zero=>omega
 | succ fuel=>
   refine ⟨fun aF=>absurd (zM iR cr aF i fZ) (fun h=>((eh i fZ).1 h).2.1 rfl),fun m hm=>?_⟩;obtain ⟨m1,m2⟩:=xo cr hm;have ie:m=l\/m=j:=by
    rcases Nat.decEq m l with cS | aP
    . rcases Nat.decEq m j with fP | a'
      . rcases Nat.decEq m i with n3 | cM
        . exact absurd ((eh m m1).2 ⟨cS,n3,fP⟩) m2
        . subst cM;exact (U1 listed v8 (fun h=>((eh l ue).1 h).1 rfl) hm).elim
      . exact .inr a'
    . exact .inl aP
   rcases ie with rfl | rfl
   . -- p first
     have lX:m<listed.size:=by rw [cr];exact ue
     refine qT bJ c1 dN rb (ae h) k.size (k1 k (ae h)) s fun ax x ao ar av aK=>?_;have bA:fL ax au bw (a.put b.dst x):=by rw [sJ];exact (k.mono ar).put (kT (ae h)).1 av
     refine anQ bJ c1 dN iR cF oj np bc mC he ag gL eW bA aK (fun cp b0 bZ bX=>cO cp _ b0 (ar.trans bZ) (bA.mono bZ) bX) (by simp [cr]) (fun y aZ=>?_) fuel (by omega);rw [gh lX,eh y aZ];constructor
     . rintro (rfl | h)
       . exact ⟨gK,SX⟩
       . exact h.2
     . intro h;by_cases B1:y=m
       . exact .inl B1
       . exact .inr ⟨B1,h⟩
   . -- q first
     have lX:m<listed.size:=by rw [cr];exact Fj
     have wD:(cK P au ops p).run call r h=.val gW gz:=by rw [<-acF y5];exact gL
     have ael:=acK m hm;refine qT bJ c1 dN oj wD k.size (k1 k wD) s fun ax x ao ar av aK=>?_;rw [mC];have wI:(listed.setIfInBounds m true).size=ops.size:=by simp [cr]
     cases fuel with
     | zero=>omega
     | succ fuel=>
       refine ⟨fun aF=>absurd (zM iR wI aF i fZ) (fun h=>?_),fun y aZ=>?_⟩
       . rcases (gh lX).1 h with e | h
         . exact np e
         . exact ((eh i fZ).1 h).2.1 rfl
       obtain ⟨e7,fJ⟩:=xo wI aZ;have agG:y=l:=by
        rcases Nat.decEq y l with cS | aP
        . rcases Nat.decEq y i with n3 | cM
          . exfalso;refine fJ ((gh lX).2 ?_);by_cases B1:y=m
            . exact .inl B1
            . exact .inr ((eh y e7).2 ⟨cS,n3,B1⟩)
          . subst cM;refine (U1 _ ael (fun h=>?_) aZ).elim;rcases (gh lX).1 h with e | h
            . exact SX e
            . exact ((eh l ue).1 h).1 rfl
        . exact aP
       subst agG;have bj:=k.mono ar;refine qT bJ c1 dN rb (ae gz) bj.size (k1 bj (ae gz)) aK fun cp ek b0 t1 t2 t3=>?_;have bA:fL cp au bw (a.put b.dst ek):=by rw [sJ];exact (bj.mono t1).put (kT (ae h)).1 t2
       have Kw:y < (listed.setIfInBounds m true).size:=by rw [wI];exact ue
       refine Nf bJ c1 dN iR cF bc eW bA t3 (fun kc im bZ bX=>cO kc _ im (ar.trans (t1.trans bZ)) (bA.mono bZ) bX) (by simp [cr]) (fun g aB=>?_) fuel (by omega);rw [gh Kw,gh lX,eh g aB];constructor
       . rintro (rfl | rfl | h)
         . exact gK
         . exact fun e=>np e.symm
         . exact h.2.1
       . intro h;by_cases aP:g=y
         . exact .inl aP
         . by_cases a':g=m
           . exact .inr (.inl a')
           . exact .inr (.inr ⟨aP,h,a'⟩)
theorem Jh {rd:Option Nat} {az:Fr} {E:Env} {h:ai} {w:World} {id:Nat} (dE:P.follows .mixedOrders=true) (bJ:eT P) (c1:hi P call) (dN:hx P call) {r:bI} {a:Act}
 {Q:Exit->Act->World->Prop} (k:fL E au r a) (s:bf az E h w) {es:List e8} {e5:bI} {bl:ai} {order aG eE:List Nat} {N M:Nat} (C:Cert P au ops (fun _=>call) es r h e5 bl eE order aG N M false)
 (cO:N=ops.size->∀ax bu ao,E.le ax->fL ax au e5 bu->bf az ax bl ao->Q .normal bu ao)
 (iN:∀ax bu ao x v ab,E.le ax->N<ops.size->ops.size<=M->(∃i0 iC,ops[i0]? =some iC/\posOf aG i0=N/\(cK P au ops iC).run call e5 bl=.cT v ab)->fL ax au (o5 r ops.toList) bu->Rel ax v x->bf az ax ab ao->Q (.panic (qu x)) bu ao)
 (dz:M<ops.size->∀(fuel:Nat) (listed:Array Bool) ax bu ao,(List.range ops.size).countP (fun i=>!listed.getD i false)<=fuel->listed.size=ops.size->qI ops (fun k=>listed.getD k false=true)->(∀k,k<ops.size->(listed.getD k false=true↔posOf aG k<N))->
   E.le ax->fL ax au e5 bu->bf az ax bl ao->wpAnyIn (cA rd) 0 P .any ops Q fuel listed bu ao):
 (Code.region id ops true).wpIn (cA rd) 0 P Q a w:=by
 have dI:∀k,¬(Array.replicate ops.size false).getD k false=true:=by
  intro k;rw [tW,Array.getElem?_replicate]
  split<;>simp
 have kE:Holds az az es bl aG (ks ops es bl aG (Array.replicate ops.size false) 0):=
  ⟨rfl,fun _ _=>rfl,fun k aH=>(by obtain ⟨_,_,_,_,aX⟩:=aH;omega),fun k bj aH=>(by obtain ⟨_,_,_,_,aX⟩:=aH;omega)⟩
 obtain ⟨hX,fq,g1,g2,g3,g4,g5,g6⟩:=C.advance N 0 (by omega) (fun k o _ _ _=>dI k) az kE (E:=E) (w:={w with drawn:=w.drawn}) (by rw [C.aX];exact s.same rfl rfl rfl rfl);have lU:∀(ax:Env) (bu:Act),E.le ax->bu.defers=a.defers->∀(bD:bI),T.get .bad e_ bD=T.get .bad e_ r->lK ax (T.get .bad e_ bD) bu.defers:=fun ax bu he bc bD sI=>by rw [sI,bc];exact k.defers.mono he
 have Fc:T.get .bad e_ e5=T.get .bad e_ r:=by have:=C.Jj N (Nat.le_refl _);have KF:es[N]? =none:=List.getElem?_eq_none (by rw [C.len];exact Nat.le_refl _);simpa [ey,KF] using this
 refine XX dE (Ry bJ (fun _=>c1) (fun _=>dN) C (fp:=E) (D:=a.defers)
  (fun aV ax bu ao ar av aK bU=>cO aV ax bu ao ar ⟨av,lU ax bu ar aK e5 Fc⟩ bU)
  (fun ax bu ao x v ab ar av GM aK bU dV eQ hg=>iN ax bu ao x v ab ar av GM aK ⟨bU,lU ax bu ar dV _ EF⟩ eQ hg)
  (fun g0 fuel listed ax bu ao g1 g2 g3 g4 ar av aK bU=>dz g0 fuel listed ax bu ao g1 g2 g3 g4 ar ⟨av,lU ax bu ar aK e5 Fc⟩ bU) ops.size _ a _ ?_ ?_)
 . exact Nat.le_trans List.countP_le_length (by simp)
 . refine ⟨by simp,k.size,rfl,fun bj aH=>absurd aH (dI bj),fun bj o e aH=>absurd aH (dI bj),E,hX,fq,Env.le.refl E,g1,g3,fun bj o aa ad=>⟨fun h=>absurd h (dI bj),fun h=>by have:=g4 bj o aa ad (Nat.zero_le _);omega⟩,
    fun bj o _ _ h=>absurd h (dI bj),g5,?_,fun t aw=>.inr ⟨fun bj o aH=>absurd aH (dI bj),k.aq t aw⟩⟩
   exact g6.same rfl rfl rfl rfl
theorem VF {n:Nat} {order aG:List Nat} (hq:me n order aG=true):order.length=n/\(∀k,k<n->posOf aG k<n/\order[posOf aG k]? =some k)/\∀p,p<n->∃i,i<n/\posOf aG i=p:=by
 unfold me at hq;simp only [Bool.and_eq_true,Nat.beq_eq] at hq;obtain ⟨kG,nw,sE,sF⟩:=hq;refine ⟨kG,fun k aH=>?_,fun p ag=>?_⟩
 . have aB:aG[k]? =some (posOf aG k):=by
    unfold posOf;rw [List.getElem?_eq_getElem (by omega)];rfl
   have:=uL sE aB;rw [Nat.zero_add] at this;exact ⟨by have:=(List.getElem?_eq_some_iff.1 this).1;omega,this⟩
 . have aB:order[p]? =some (order[p]'(by omega)):=List.getElem?_eq_getElem (by omega);have:=uL sF aB;rw [Nat.zero_add] at this;refine ⟨order[p]'(by omega),by have:=(List.getElem?_eq_some_iff.1 this).1;omega,?_⟩;unfold posOf;rw [this];rfl
theorem anN {order aG:List Nat} (aA:C5 P ops order aG=true):3<=ops.size/\∀i o,ops[i]? =some o->∃cV,(eZ [] ops.toList)[i]? =some cV/\mP i o=true/\
 (posOf aG i<ops.size-3->∀k ok,ops[k]? =some ok->posOf aG k<ops.size-3->∃mk,(eZ [] ops.toList)[k]? =some mk/\pw i cV (b7 ops o) o.dst k mk ok (Nat.blt (posOf aG k) (posOf aG i))=true/\(fe P o.op=true->er P ok=true->posOf aG k<posOf aG i->gl cV k=true))/\
 (¬posOf aG i<ops.size-3->Ha P ops order aG (ops.size-3) i cV o=true):=by
 unfold C5 at aA;simp only [Bool.and_eq_true,Nat.ble_eq] at aA;refine ⟨aA.1,fun i o an=>?_⟩;obtain ⟨cV,aa,ad⟩:=qF aA.2 i o (by simpa using an);simp only [Nat.zero_add,Bool.and_eq_true] at ad;refine ⟨cV,aa,ad.1,fun aO k ok aH iQ=>?_,fun jt=>?_⟩
 . have aJ:=ad.2;rw [show Nat.blt (posOf aG i) (ops.size-3)=true from by rw [Nat.blt_eq];exact aO] at aJ;simp only [cond_true] at aJ;obtain ⟨mk,bA,bx⟩:=qF aJ k ok (by simpa using aH);simp only [Nat.zero_add] at bx;rw [show Nat.blt (posOf aG k) (ops.size-3)=true from by rw [Nat.blt_eq];exact iQ] at bx;simp only [cond_true,Bool.and_eq_true] at bx;refine ⟨mk,bA,bx.1,fun aP a' aO=>?_⟩;have c4:=bx.2;rw [aP,a',Bool.true_and,show Nat.blt (posOf aG k) (posOf aG i)=true from by rw [Nat.blt_eq];exact aO] at c4;exact c4
 . have aJ:=ad.2;rw [show Nat.blt (posOf aG i) (ops.size-3)=false from by rw [<-Bool.not_eq_true,Nat.blt_eq];exact jt] at aJ;exact aJ
theorem anO {order aG:List Nat} {N i cV p:Nat} {o GJ:Oper} (ag:order[N]? =some p) (lZ:ops[p]? =some GJ) (h:Ha P ops order aG N i cV o=true):
 (∀k,k<ops.size->posOf aG k<N->gl cV k=true)/\(posOf aG i=N->fe P o.op=false/\looks o.op=false)/\(posOf aG i≠N->∃x,td o=some x)/\
 (posOf aG i=N+1->gl cV p=true)/\(posOf aG i=N+2->∀t ∈ b7 ops o,GJ.dst≠some t):=by
 unfold Ha at h;rw [ag] at h;simp only [Bool.and_eq_true] at h;obtain ⟨⟨aa,ad⟩,aJ,bE⟩:=h;refine ⟨fun k aH Kn=>?_,fun e=>?_,fun e=>?_,fun e=>?_,fun e t aw=>?_⟩
 . obtain ⟨mk,bA,bx⟩:=qF aa k ops[k] (by simp);simp only [Nat.zero_add] at bx;rw [show Nat.blt (posOf aG k) N=true from by rw [Nat.blt_eq];exact Kn] at bx;exact bx
 . rw [ix,if_pos e] at ad;simpa using ad
 . rw [ix,if_neg e] at ad;exact Option.isSome_iff_exists.1 ad
 . rw [ix,if_pos e] at aJ;exact aJ
 . rw [ix,if_pos e,lZ] at bE;simp only at bE;intro bc;rw [bc] at bE;simp only [Bool.not_eq_true'] at bE;rw [show (b7 ops o).contains t=true from by simpa using aw] at bE;cases bE
theorem J8 {es:List e8} {bl:ai} {N p:Nat} (ag:p<=N):cq (es.take N) (cq es bl N) p=cq es bl p:=by
 by_cases h:p<N
 . cases he:es[p]? with
   | some e=>simp [cq,h,he]
   | none=>
     have aV:es[N]? =none:=List.getElem?_eq_none (by have:=List.getElem?_eq_none_iff.1 he;omega);simp [cq,h,he,aV]
 . have:p=N:=by omega
   subst this;simp [cq,List.getElem?_take]
theorem Wg {es:List e8} {e5:bI} {N p:Nat} (ag:p<=N):ey (es.take N) (ey es e5 N) p=ey es e5 p:=by
 by_cases h:p<N
 . cases he:es[p]? with
   | some e=>simp [ey,h,he]
   | none=>
     have aV:es[N]? =none:=List.getElem?_eq_none (by have:=List.getElem?_eq_none_iff.1 he;omega);simp [ey,h,he,aV]
 . have:p=N:=by omega
   subst this;simp [ey,List.getElem?_take]
theorem ZD {order:List Nat} {es:List e8} {N i j:Nat} {o p:Oper} {e f:e8} {x y:Operand} (a1:D2 ops order es N=true) (an:order[N]? =some i) (aU:order[N+1]? =some j) (cF:ops[i]? =some o) (oj:ops[j]? =some p)
 (he:es[N]? =some e) (aA:es[N+1]? =some f) (ak:td o=some x) (aZ:td p=some y) {b c:aQ} {off j8:Nat} (ae:(bT x).run (dA e.r (b7 ops o))=.ptr b off) (aD:(bT y).run (dA f.r (b7 ops p))=.ptr c j8):b≠c:=by
 unfold D2 M' at a1;simp only [an,aU,cF,oj,he,aA,ak,aZ,ae,aD] at a1;intro h;subst h;rw [aQ.yn] at a1;cases a1
theorem acN {rd:Option Nat} {az:Fr} {E:Env} {h:ai} {w:World} {id:Nat} (dE:P.follows .mixedOrders=true) (bJ:eT P) (c1:hi P call) (dN:hx P call) {r:bI} {a:Act} {order aG:List Nat} (hq:me ops.size order aG=true) (gI:C5 P ops order aG=true)
 {Q:Exit->Act->World->Prop} (ag:n1 az E au (Q .normal) Q (Jg ops order (fW P au ops (hW ops order)) (sa P au ops (eZ [] ops.toList) aG (h7 P aG 0 ops.toList) 0 ops.toList) call r h)) (k:fL E au r a) (s:bf az E h w):(Code.region id ops true).wpIn (cA rd) 0 P Q a w:=by
 obtain ⟨kG,iE,lE⟩:=VF hq;obtain ⟨ad,gI⟩:=anN gI;unfold Jg at ag;cases cR:(fW P au ops (hW ops order)).run call r h with
 | fail=>rw [cR] at ag;exact ag.elim
 | cT _ _ _ _ _=>rw [cR] at ag;exact ag.elim
 | ok es e5 bl=>
   rw [cR] at ag;simp only at ag;obtain ⟨N,aeu⟩:∃N,N=ops.size-3:=⟨_,rfl⟩;rw [<-aeu] at ag gI;cases aC:(D2 ops order es (N+1)&&(sa P au ops (eZ [] ops.toList) aG (h7 P aG 0 ops.toList) 0 ops.toList).run call (es.take N) (cq es bl N)) with
   | false=>rw [aC] at ag;exact ag.elim
   | true=>
     rw [aC] at ag;simp only [cond_true] at ag;simp only [Bool.and_eq_true] at aC;obtain ⟨E8,Bo⟩:=aC;obtain ⟨ar,av,aK,bU⟩:=uZ cR;have hlen:es.length=ops.size:=by rw [ar,qs,kG]
     have inj:∀i j,i<ops.size->j<ops.size->posOf aG i=posOf aG j->i=j:=by intro i j an aU he;have a:=(iE i an).2;have b:=(iE j aU).2;rw [he,b] at a;cases a;rfl
     obtain ⟨mF,tZ,yE⟩:=lE N (by omega);obtain ⟨ph,yB,yC⟩:=lE (N+1) (by omega);obtain ⟨rm,q4,tY⟩:=lE (N+2) (by omega);have By:ops[mF]? =some ops[mF]:=Array.getElem?_eq_getElem tZ;have Fh:ops[ph]? =some ops[ph]:=Array.getElem?_eq_getElem yB;have Fi:ops[rm]? =some ops[rm]:=Array.getElem?_eq_getElem q4;have KM:=(iE mF tZ).2;have KK:=(iE ph yB).2;have KL:=(iE rm q4).2;rw [yE] at KM;rw [yC] at KK;rw [tY] at KL;have y8:∀i o,ops[i]? =some o->¬posOf aG i<N->∃cV,(eZ [] ops.toList)[i]? =some cV/\(∀k,k<ops.size->posOf aG k<N->gl cV k=true)/\(posOf aG i=N->fe P o.op=false/\looks o.op=false)/\(posOf aG i≠N->∃x,td o=some x)/\
      (posOf aG i=N+1->gl cV mF=true)/\(posOf aG i=N+2->∀t ∈ b7 ops o,ops[mF].dst≠some t):=by
      intro i o an jt;obtain ⟨cV,b6,_,_,z4⟩:=gI i o an;exact ⟨cV,b6,anO KM By (z4 jt)⟩
     obtain ⟨aqz,_,_,anL,_⟩:=y8 mF _ By (by omega);obtain ⟨akm,SZ,_,_,anJ,al,_⟩:=y8 ph _ Fh (by omega);obtain ⟨zr,BG,_,_,anK,_,Mz⟩:=y8 rm _ Fi (by omega);obtain ⟨RF,akd⟩:=anL yE;obtain ⟨arf,K7⟩:=anJ (by omega);obtain ⟨arh,K8⟩:=anK (by omega);have al:=al yC;have Mz:=Mz tY;obtain ⟨Jn,d',eK,Cj⟩:=bU _ _ (nI KM By);obtain ⟨vM,bW,a2,a3⟩:=bU _ _ (nI KK Fh);obtain ⟨RC,cb,b9,e3⟩:=bU _ _ (nI KL Fi);obtain ⟨aq6,ark,ak1,Rj,apK⟩:=M9 K7;obtain ⟨aq7,arl,aqL,Rk,vX⟩:=M9 K8;have dI:es[N+2+1]? =none:=List.getElem?_eq_none (by omega);have aft:cq es bl (N+2+1)=bl:=by simp [cq,dI]
     have amC:ey es e5 (N+2+1)=e5:=by simp [ey,dI]
     have aet:cq es bl N=Jn.h:=by simp [cq,d']
     have aml:ey es e5 N=Jn.r:=by simp [ey,d']
     have aer:cq es bl (N+1)=vM.h:=by simp [cq,bW]
     have amj:ey es e5 (N+1)=vM.r:=by simp [ey,bW]
     have aes:cq es bl (N+1+1)=RC.h:=by simp [cq,cb]
     have amk:ey es e5 (N+1+1)=RC.r:=by simp [ey,cb]
     rw [amj] at Cj;rw [aer] at eK;rw [Rj,amk] at a3;rw [Rk,amC] at e3;simp only [ga] at a3 e3;rw [aes] at a2;rw [aft] at b9;obtain ⟨aeq,JP⟩:=vL RF eK;have JP:=JP akd;obtain ⟨Pj,aqM,ag',alG,WC,aog⟩:=Rv K7 a2;obtain ⟨Is,aqN,TY,xe,amV,aoh⟩:=Rv K8 b9;have cl:Pj≠Is:=ZD E8 KK KL Fh Fi bW cb K7 K8 alG xe;have su:=aoh vM.h (by rw [WC,ai.dy,if_neg cl]);have Bm:=aog (vM.h.set Is TY) (by rw [ai.dy,if_neg (fun e=>cl e.symm)]);have aeP:(vM.h.set Is TY).set Pj ag'=bl:=by rw [ai.set_comm _ (fun e=>cl e.symm),<-WC,<-amV]
     rw [aeP] at Bm;rw [a3] at su b9;have wH:e5=vM.r:=e3.trans a3;have afB:∀m,m<ops.size->(posOf aG m<N↔(m≠mF/\m≠ph/\m≠rm)):=by
      intro m hm;have Ta:=(iE m hm).1;constructor
      . intro h;exact ⟨fun e=>by subst e;omega,fun e=>by subst e;omega,fun e=>by subst e;omega⟩
      . rintro ⟨cC,cS,fP⟩;have tH:posOf aG m≠N:=fun e=>cC (inj m mF hm tZ (by rw [e,yE]));have bP:posOf aG m≠N+1:=fun e=>cS (inj m ph hm yB (by rw [e,yC]));have bY:posOf aG m≠N+2:=fun e=>fP (inj m rm hm q4 (by rw [e,tY]));omega
     have aeM:er P ops[ph]=true:=by unfold er ha;rw [ak1];rfl
     have y5:∀t ∈ b7 ops ops[rm],T.get .bad (aj t) vM.r=T.get .bad (aj t) Jn.r:=by intro t aw;have y':t<=top:=Nat.le_of_ble_eq_true (List.all_eq_true.1 (kT b9).2 t aw);rw [Cj,Sg (kT eK).1 y',if_neg (Mz t aw)]
     have ig:∀i o,ops[i]? =some o->posOf aG i<N->∃e,(es.take N)[posOf aG i]? =some e/\(cK P au ops o).run call e.r e.h=.val e.v (cq (es.take N) (cq es bl N) (posOf aG i+1))/\ey (es.take N) (ey es e5 N) (posOf aG i+1)=(ga o.dst).run e.r e.v:=by
      intro i o a6 an;obtain ⟨e,b6,z2,z3⟩:=bU _ o (nI (iE i (Array.getElem?_eq_some_iff.1 a6).1).2 a6);refine ⟨e,by simp [an,b6],?_,?_⟩
      . rw [J8 (by omega)];exact z2
      . rw [Wg (by omega)];exact z3
     have C:Cert P au ops (fun _=>call) (es.take N) r h (ey es e5 N) (cq es bl N) (N::h7 P aG 0 ops.toList) order aG N N false:=
      ⟨by simp [hlen];omega,by omega,Nat.le_refl _,iE,lE,by rw [J8 (Nat.zero_le _)];exact av,by rw [Wg (Nat.zero_le _)];exact aK,ig,
        fun i o a6=>by obtain ⟨cV,b6,z2,z3,_⟩:=gI i o a6;exact ⟨cV,b6,z2,fun an k ok aH Km=>by obtain ⟨mk,e7,fJ,y3⟩:=z3 an k ok aH Km;exact ⟨mk,e7,fJ,fun a b c=>.inl (y3 a b c)⟩⟩,
        by simp,
        fun j o aa ad=>List.mem_cons_of_mem _ (by simpa using zp (aG:=aG) (i:=0) (j:=j) (l:=ops.toList) (by simpa using aa) ad),
        fun s aR=>by
         rcases List.mem_cons.1 aR with rfl | aR
         . exact .inl (.inr ⟨rfl,rfl⟩)
         . rcases uB aR with h | ⟨j,o,aa,ad,aJ⟩
           . exact .inl (.inl (by simpa using h))
           . exact .inr ⟨j,o,by simpa using aa,ad,by simpa using aJ⟩,
        fun j o aa ad aJ bE=>by
         obtain ⟨e,g1,_⟩:=ig j o aa bE;have Tq:=Il Bo j o (by simpa using aa) ad aJ e (by simpa using g1);refine ⟨e,g1,fun s aR hm=>?_⟩;rcases List.mem_cons.1 aR with rfl | aR
         . have ns:s4 P (eZ [] ops.toList) ops.toList aG j (((eZ [] ops.toList)[j]?).getD 0) (s+1)=true:=by
            unfold s4 at hm ⊢;refine NL (by rw [LI];simp) fun di mk ok e7 fJ=>?_;obtain ⟨mk',bz,ek⟩:=qF hm di ok fJ;rw [e7] at bz;cases bz;simp only [Nat.zero_add] at ek ⊢;have bK:ops[di]? =some ok:=by simpa using fJ
            have iQ:=(Array.getElem?_eq_some_iff.1 bK).1;by_cases f':posOf aG di=s
            . have:di=mF:=inj di mF iQ tZ (by rw [f',yE]);subst this;rw [By] at bK;cases bK;have afD:er P ops[di]=false:=by unfold er;rw [RF];rfl
              rw [afD];rfl
            . have:Nat.blt (posOf aG di) (s+1)=Nat.blt (posOf aG di) s:=by
               rw [Bool.eq_iff_iff,Nat.blt_eq,Nat.blt_eq];omega
              rw [this];exact ek
           have yU:s+1 ∈ h7 P aG 0 ops.toList:=by rw [<-yC];simpa using zp (P:=P) (aG:=aG) (i:=0) (j:=ph) (l:=ops.toList) (by simp) aeM
           obtain ⟨ab,g3⟩:=Tq (s+1) yU (by simpa using ns);refine ⟨call,ab,⟨c1,dN⟩,?_⟩;have aP:cq (es.take s) (cq es bl s) (s+1)=cq es bl s:=by have:(es.take s)[s+1]? =none:=List.getElem?_eq_none (by simp;omega);simp only [cq,this]
           have a':cq (es.take s) (cq es bl s) s=cq es bl s:=J8 (Nat.le_refl _);rw [aP] at g3;rw [a'];exact g3
         . obtain ⟨ab,g3⟩:=Tq s aR (by simpa using hm);exact ⟨call,ab,⟨c1,dN⟩,g3⟩,
        fun _=>⟨rfl,fun di ok mk aH jt nu j aU Bz=>by obtain ⟨cV,b6,z2,_⟩:=y8 di ok aH (by omega);rw [nu] at b6;cases b6;exact z2 j aU Bz⟩,
        fun aa ad=>by omega⟩
     refine Jh dE bJ c1 dN k s C (fun h=>by omega) (fun _ _ _ _ _ _ _ _ h=>by omega) (fun _ fuel listed ax bu ao g1 g2 g3 g4 g5 g6 g7=>?_);rw [aml] at g6;rw [aet] at g7;rw [aeq] at a2 su Bm;refine anP bJ c1 dN (fun i o a6=>by obtain ⟨cV,_,z2,_⟩:=gI i o a6;exact z2) By Fh Fi (fun e=>by rw [e] at yE;omega) (fun e=>by rw [e] at yE;omega) (fun e=>by rw [e] at yC;omega) Rj Rk
      JP Cj y5 a2 b9 su Bm g6 g7 (fun cp a2 b0 bZ bX b_=>ag cp a2 b0 (g5.trans bZ) (by rw [wH];exact bX) b_) g2 g3 (fun cV mz=>by rw [SZ] at mz;cases mz;exact al) ⟨akm,SZ⟩ (fun m hm=>(g4 m hm).trans (afB m hm)) fuel ?_
     have I5:∀(L:Array Bool) (x:Nat),L.size=ops.size->x<ops.size->¬L.getD x false=true->(List.range ops.size).countP (fun k=>!(L.setIfInBounds x true).getD k false) < (List.range ops.size).countP (fun k=>!L.getD k false):=by
      intro L x eO ak aV;have ze:x<L.size:=by rw [eO];exact ak
      refine Eu (fun k=>!L.getD k false) (fun k=>!(L.setIfInBounds x true).getD k false) (List.range ops.size) (fun k _ aH=>?_) ⟨x,List.mem_range.2 ak,?_,?_⟩
      . simp only [Bool.not_eq_true'] at aH ⊢;cases aC:L.getD k false with
        | false=>rfl
        | true=>
          have:=(gh (k:=k) ze).2 (.inr aC);rw [aH] at this;cases this
      . cases aC:L.getD x false with
        | false=>rfl
        | true=>exact absurd aC aV
      . have:=(gh (k:=x) ze).2 (.inl rfl);simp [this]
     have akz:¬listed.getD mF false=true:=fun h=>by have:=(g4 mF tZ).1 h;omega
     have akx:¬listed.getD ph false=true:=fun h=>by have:=(g4 ph yB).1 h;omega
     have aky:¬listed.getD rm false=true:=fun h=>by have:=(g4 rm q4).1 h;omega
     have bP:=I5 listed mF g2 tZ akz;have bY:=I5 (listed.setIfInBounds mF true) ph (by simp [g2]) yB (fun h=>by
      rcases (gh (by rw [g2];exact tZ)).1 h with e | h
      . rw [e] at yC;omega
      . exact akx h)
     have c3:=I5 ((listed.setIfInBounds mF true).setIfInBounds ph true) rm (by simp [g2]) q4 (fun h=>by
      rcases (gh (by simp [g2];exact yB)).1 h with e | h
      . rw [e] at tY;omega
      . rcases (gh (by rw [g2];exact tZ)).1 h with e | h
        . rw [e] at tY;omega
        . exact aky h)
     omega
end
section
variable {P:Program} {au:Nat} {ops:Array Oper} {call:dU}
inductive pM {α β:Type} (R:α->β->Prop):List α->List β->Prop
 | nil:pM R [] []
 | cons {a:α} {b:β} {Gb:List α} {Gc:List β} (h:R a b) (t:pM R Gb Gc):pM R (a::Gb) (b::Gc)
def xn (ops:Array Oper) (t:Nat) (listed:Array Bool):Option Nat:=(Region.ready .any ops listed)[t % (Region.ready .any ops listed).length]?
theorem go_succ (fuel t:Nat) (listed:Array Bool):Region.linearise.go .any ops (fuel+1) t listed []=match xn ops t listed with
 | some i=>i::Region.linearise.go .any ops fuel (t / (Region.ready .any ops listed).length) (listed.setIfInBounds i true) []
 | none=>[]:=by
 simp only [Region.linearise.go];change (match (Region.ready .any ops listed)[t % (Region.ready .any ops listed).length]? with
  | some i=>Region.linearise.go .any ops fuel (t / (Region.ready .any ops listed).length) (listed.setIfInBounds i true) [i]
  | none=>[].reverse)=_
 unfold xn;cases (Region.ready .any ops listed)[t % (Region.ready .any ops listed).length]? with
 | none=>rfl
 | some i=>
   simp only;rw [linearise_go_acc,List.reverse_singleton,List.singleton_append]
theorem Wd {t:Nat} {listed:Array Bool} (h:xn ops t listed=none):Region.ready .any ops listed=[]:=by
 unfold xn at h;cases aF:Region.ready .any ops listed with
 | nil=>rfl
 | cons x xs=>
   rw [aF] at h;have aO:t % (x::xs).length < (x::xs).length:=Nat.mod_lt _ (by simp);rw [List.getElem?_eq_getElem aO] at h;cases h
theorem MD {t i:Nat} {listed:Array Bool} (h:xn ops t listed=some i):i ∈ Region.ready .any ops listed:=List.mem_of_getElem? h
theorem count_set {listed:Array Bool} {i:Nat} (cr:listed.size=ops.size) (an:i<ops.size) (aV:¬listed.getD i false=true):
 (List.range ops.size).countP (fun k=>!(listed.setIfInBounds i true).getD k false) < (List.range ops.size).countP (fun k=>!listed.getD k false):=by
 have ay:i<listed.size:=by rw [cr];exact an
 refine Eu (fun k=>!listed.getD k false) (fun k=>!(listed.setIfInBounds i true).getD k false) (List.range ops.size) (fun k _ aH=>?_) ⟨i,List.mem_range.2 an,?_,?_⟩
 . simp only [Bool.not_eq_true'] at aH ⊢;cases aC:listed.getD k false with
   | false=>rfl
   | true=>
     have:=(gh (k:=k) ay).2 (.inr aC);rw [aH] at this;cases this
 . cases aC:listed.getD i false with
   | false=>rfl
   | true=>exact absurd aC aV
 . have:=(gh (k:=i) ay).2 (.inl rfl);simp [this]
theorem Sj (iR:∀i o,ops[i]? =some o->mP i o=true):∀(fuel t:Nat) (listed:Array Bool),listed.size=ops.size->(List.range ops.size).countP (fun i=>!listed.getD i false)<=fuel->
 (Region.linearise.go .any ops fuel t listed []).Nodup/\(∀k ∈ Region.linearise.go .any ops fuel t listed [],k<ops.size/\¬listed.getD k false=true)/\
  ∀k,k<ops.size->listed.getD k false=true\/k ∈ Region.linearise.go .any ops fuel t listed []
 | 0,t,listed,cr,aD=>by
   have e:Region.linearise.go .any ops 0 t listed []=[]:=rfl;rw [e];refine ⟨List.nodup_nil,fun k aH=>by simp at aH,fun k aH=>.inl ?_⟩;have aX:(List.range ops.size).countP (fun i=>!listed.getD i false)=0:=by omega
   rw [List.countP_eq_zero] at aX;simpa using aX k (List.mem_range.2 aH)
 | fuel+1,t,listed,cr,aD=>by
   rw [go_succ];cases aF:xn ops t listed with
   | none=>
     simp only;exact ⟨List.nodup_nil,fun k aH=>by simp at aH,fun k aH=>.inl (zM iR cr (Wd aF) k aH)⟩
   | some i=>
     simp only;obtain ⟨i1,i2⟩:=xo cr (MD aF);have ay:i<listed.size:=by rw [cr];exact i1
     have:=count_set cr i1 i2;obtain ⟨g1,g2,g3⟩:=Sj iR fuel (t / (Region.ready .any ops listed).length) (listed.setIfInBounds i true) (by simp [cr]) (by omega);refine ⟨List.nodup_cons.2 ⟨fun hm=>(g2 i hm).2 ((gh ay).2 (.inl rfl)),g1⟩,fun k aH=>?_,fun k aH=>?_⟩
     . rcases List.mem_cons.1 aH with rfl | aH
       . exact ⟨i1,i2⟩
       . exact ⟨(g2 k aH).1,fun h=>(g2 k aH).2 ((gh ay).2 (.inr h))⟩
     . rcases g3 k aH with h | h
       . rcases (gh ay).1 h with rfl | h
         . exact .inr (by simp)
         . exact .inl h
       . exact .inr (by simp [h])
theorem G5 {o:Oper} {os:List Oper} {r:bI} {h:ai} {es:List e8} {dc:bI} {aA:ai} (he:(fW P au ops (o::os)).run call r h=.ok es dc aA):
 ∃v aa h4,(cK P au ops o).run call r h=.val v aa/\(fW P au ops os).run call ((ga o.dst).run r v) aa=.ok h4 dc aA/\es=⟨r,h,v⟩::h4:=by
 simp only [fW,C4] at he;cases aa:(cK P au ops o).run call r h with
 | fail=>rw [aa] at he;cases he
 | cT _ _=>rw [aa] at he;simp only at he;cases hm:ma o.op<;>rw [hm] at he<;>cases he
 | val v bl=>
   rw [aa] at he;simp only at he;cases ad:(fW P au ops os).run call ((ga o.dst).run r v) bl with
   | fail=>rw [ad] at he;cases he
   | cT _ _ _ _ _=>rw [ad] at he;cases he
   | ok h4 bw aJ=>
     rw [ad] at he;simp only [qH.ok.injEq] at he;obtain ⟨rfl,rfl,rfl⟩:=he;exact ⟨v,bl,h4,rfl,ad,rfl⟩
theorem G6 {o:Oper} {os:List Oper} {r:bI} {h aa:ai} {v:V} {h4:List e8} {dc:bI} {aA:ai} (aX:(cK P au ops o).run call r h=.val v aa) (ad:(fW P au ops os).run call ((ga o.dst).run r v) aa=.ok h4 dc aA):
 (fW P au ops (o::os)).run call r h=.ok (⟨r,h,v⟩::h4) dc aA:=by
 simp only [fW,C4,aX,ad]
theorem M7:∀(d' eK:List Oper) {r:bI} {h:ai} {es:List e8} {dc:bI} {aA:ai},(fW P au ops (d'++eK)).run call r h=.ok es dc aA->
 ∃h4 bw aa qV,(fW P au ops d').run call r h=.ok h4 bw aa/\(fW P au ops eK).run call bw aa=.ok qV dc aA/\es=h4++qV
 | [],eK,r,h,es,dc,aA,he=>⟨[],r,h,es,rfl,he,rfl⟩
 | o::os,eK,r,h,es,dc,aA,he=>by obtain ⟨v,aa,h4,ar,av,rfl⟩:=G5 he;obtain ⟨Jv,bw,aJ,qV,g1,g2,rfl⟩:=M7 os eK av;exact ⟨⟨r,h,v⟩::Jv,bw,aJ,qV,G6 ar g1,g2,rfl⟩
theorem M8:∀(d' eK:List Oper) {r bw dc:bI} {h aa aA:ai} {h4 qV:List e8},(fW P au ops d').run call r h=.ok h4 bw aa->(fW P au ops eK).run call bw aa=.ok qV dc aA->
 (fW P au ops (d'++eK)).run call r h=.ok (h4++qV) dc aA
 | [],eK,r,bw,dc,h,aa,aA,h4,qV,he,ad=>by simp only [fW,qH.ok.injEq] at he;obtain ⟨rfl,rfl,rfl⟩:=he;exact ad
 | o::os,eK,r,bw,dc,h,aa,aA,h4,qV,he,ad=>by obtain ⟨v,aJ,Jv,ar,av,rfl⟩:=G5 he;exact G6 ar (M8 os eK av ad)
theorem CI:∀(a b:List Nat),hW ops (a++b)=hW ops a++hW ops b
 | [],b=>rfl
 | x::xs,b=>by simp [hW,CI xs b]
theorem V7:∀(l:List Oper),(∀o ∈ l,fe P o.op=false/\looks o.op=false)->∀{r dc:bI} {h aA:ai} {es:List e8},(fW P au ops l).run call r h=.ok es dc aA->
 aA=h/\∀H:ai,∃gy,(fW P au ops l).run call r H=.ok gy dc H
 | [],_,r,dc,h,aA,es,he=>by simp only [fW,qH.ok.injEq] at he;obtain ⟨rfl,rfl,rfl⟩:=he;exact ⟨rfl,fun H=>⟨[],rfl⟩⟩
 | o::os,aC,r,dc,h,aA,es,he=>by obtain ⟨v,aa,h4,ar,av,rfl⟩:=G5 he;obtain ⟨aP,a'⟩:=aC o (by simp);obtain ⟨d1,d2⟩:=vL aP ar;subst d1;obtain ⟨g1,g2⟩:=V7 os (fun ck hp=>aC ck (by simp [hp])) av;refine ⟨g1,fun H=>?_⟩;obtain ⟨gy,g3⟩:=g2 H;exact ⟨_,G6 (d2 a' H) g3⟩
theorem B8 {o:Oper} {A:xS} (h:l5 o=some A):o.op=.insert A.t A.m A.k A.x/\o.dst=none/\o.guard=none:=by
 unfold l5 at h
 split at h
 case h_2=>cases h
 rename_i t m k x a6
 split at h
 case h_2=>cases h
 rename_i bc
 split at h
 case h_2=>cases h
 rename_i aB;cases h;exact ⟨a6,bc,aB⟩
theorem V2 {e:dR} {k v:V} {c:Nat}:∀{es:List cL},(∀m ∈ es,e.run k m.k=some false)->k8 e k v c es=some (es++[⟨k,v,c⟩],true)
 | [],_=>rfl
 | m::ms,h=>by simp only [k8,h m (by simp),cond_false,V2 (es:=ms) fun du ns=>h du (by simp [ns]),List.cons_append]
theorem acG {o:Oper} {A:xS} (yP:Cf P A.t=true) (nk:l5 o=some A) {r:bI} {H1 cu:ai} {v:V} (he:(cK P au ops o).run call r H1=.val v cu) {b:aQ} (ae:(bT A.m).run (dA r (b7 ops o))=.map b):
 ∀(H:ai) es c,H.get b=.mp es c->(∀m ∈ es,(uw P A.t).run ((bT A.k).run (dA r (b7 ops o))) m.k=some false)->
  (cK P au ops o).run call r H=.val .bad (H.set b (.mp (es++[⟨(bT A.k).run (dA r (b7 ops o)),(bT A.x).run (dA r (b7 ops o)),c⟩]) (c+1))):=by
 obtain ⟨a6,bc,aB⟩:=B8 nk;obtain ⟨aa,ad⟩:=kT he;have key:cK P au ops o=⟨jr none (fD P o) (b7 ops o)⟩:=by unfold cK;rw [show (fa au o.dst&&j_ (b7 ops o))=true from by rw [aa,ad];rfl,aB];rfl
 rw [key] at he ⊢;simp only [jr] at he ⊢;have we:∀H,(fD P o).run call (dA r (b7 ops o)) H=hr .bad ((pJ P A.t).run H (.map b) ((bT A.k).run (dA r (b7 ops o))) ((bT A.x).run (dA r (b7 ops o)))):=by intro H;unfold fD;rw [a6];simp only [ae]
 rw [we] at he;have agk:pJ P A.t=⟨k_ (uw P A.t)⟩:=by
  cases aR:(pJ P A.t).run H1 (.map b) ((bT A.k).run (dA r (b7 ops o))) ((bT A.x).run (dA r (b7 ops o))) with
  | none=>rw [aR] at he;cases he
  | some aJ=>
    unfold pJ at aR ⊢;unfold uw;cases aw:a_ P A.t with
    | none=>rw [aw] at aR;cases aR
    | some aS=>
      rw [aw] at aR;simp only at aR ⊢;cases bV:aS.bg<;>rw [bV] at aR<;>simp only at aR ⊢<;>try (cases aR;done)
      rename_i cG hD;cases om:a_ P cG with
      | none=>rw [om] at aR;cases aR
      | some gU=>
        rw [om] at aR;simp only at aR ⊢;cases aA:k2 gU.bg with
        | false=>
          unfold Cf at yP;rw [aw] at yP;simp only [bV,om,aA] at yP;cases yP
        | true=>rfl
 intro H es c lq aH;rw [we,agk];simp only [k_,lq,cf.j9,V2 aH,hr,cond_true]
theorem agY {o:Oper} {r:bI} {b:aQ} {m:cL} (h:ur ops r b o=some m):∃A,l5 o=some A/\(bT A.m).run (dA r (b7 ops o))=.map b/\m.k=(bT A.k).run (dA r (b7 ops o))/\m.v=(bT A.x).run (dA r (b7 ops o)):=by
 unfold ur at h;cases a1:l5 o with
 | none=>rw [a1] at h;cases h
 | some A=>
   rw [a1] at h;simp only at h;cases hm:(bT A.m).run (dA r (b7 ops o))<;>rw [hm] at h<;>simp only at h<;>try (cases h;done)
   obtain ⟨aD,aa⟩:=eI h;have:=aQ.ln aD;subst this;cases aa;exact ⟨A,rfl,hm,rfl,rfl⟩
def la (ops:Array Oper) (r:bI) (b:aQ) (i:Nat) (m:cL):Prop:=∃o,ops[i]? =some o/\ur ops r b o=some m
theorem la.Jb {r:bI} {b:aQ} {i:Nat} {m du:cL} (h:la ops r b i m) (ab:la ops r b i du):m=du:=by obtain ⟨o,aa,ad⟩:=h;obtain ⟨ck,aJ,bE⟩:=ab;rw [aa] at aJ;cases aJ;rw [ad] at bE;cases bE;rfl
theorem FR {r:bI} {b:aQ}:∀{is:List Nat} {ms:List cL},wS ops r b is=some ms->pM (la ops r b) is ms
 | [],ms,h=>by simp only [wS,Option.some.injEq] at h;subst h;exact .nil
 | i::is,ms,h=>by
   simp only [wS] at h;cases a6:ops[i]? with
   | none=>rw [a6] at h;cases h
   | some o=>
     rw [a6] at h;simp only at h;cases hm:ur ops r b o with
     | none=>rw [hm] at h;cases h
     | some m=>
       rw [hm] at h;simp only at h;cases aR:wS ops r b is with
       | none=>rw [aR] at h;cases h
       | some aqC=>
         rw [aR] at h;simp only [Option.some.injEq] at h;subst h;exact .cons ⟨o,a6,hm⟩ (FR aR)
theorem TU {x:Option Bool} (h:isFalse x=true):x=some false:=by
 cases x with
 | none=>cases h
 | some b=>cases b<;>simp_all [isFalse]
theorem Ig {e:dR} {m:cL}:∀{ms:List cL},D3 e m ms=true->∀du ∈ ms,e.run m.k du.k=some false/\e.run du.k m.k=some false
 | [],_,du,h=>by simp at h
 | x::xs,h,du,hm=>by
   simp only [D3,Bool.and_eq_true] at h;rcases List.mem_cons.1 hm with rfl | hm
   . exact ⟨TU h.1,TU h.2.1⟩
   . exact Ig h.2.2 du hm
theorem O4 {r:bI} {b:aQ} {e:dR}:∀{is:List Nat} {ms:List cL},pM (la ops r b) is ms->is.Nodup->AP e ms=true->∀i j m du,i ∈ is->j ∈ is->i≠j->la ops r b i m->la ops r b j du->e.run m.k du.k=some false
 | _,_,.nil,_,_,i,_,_,_,an,_,_,_,_=>by simp at an
 | _,_,.cons (a:=x) (b:=ei) (Gb:=xs) (Gc:=akw) aX aw,aV,a1,i,j,m,du,an,aU,np,hm,ns=>by
   simp only [AP,Bool.and_eq_true] at a1;rw [List.nodup_cons] at aV;have TH:∀k n,k ∈ xs->la ops r b k n->n ∈ akw:=by
    intro k n aH yR;have gen:∀{is:List Nat} {ms:List cL},pM (la ops r b) is ms->k ∈ is->n ∈ ms:=by
     intro is ms aA
     induction aA with
     | nil=>intro aH;simp at aH
     | cons aa _ br=>
       intro aH;rcases List.mem_cons.1 aH with rfl | aH
       . rw [yR.Jb aa];simp
       . exact List.mem_cons_of_mem _ (br aH)
    exact gen aw aH
   rcases List.mem_cons.1 an with SR | an
   . rcases List.mem_cons.1 aU with Kk | aU
     . exact absurd (SR.trans Kk.symm) np
     . rw [SR] at hm;rw [hm.Jb aX];exact (Ig a1.1 du (TH j du aU ns)).1
   . rcases List.mem_cons.1 aU with Kk | aU
     . rw [Kk] at ns;rw [ns.Jb aX];exact (Ig a1.1 m (TH i m an hm)).2
     . exact O4 aw aV.2 a1.2 i j m du an aU np hm ns
theorem Lh {jC:bI} {b:aQ} {e:dR} {I:List Nat} (sx:∀i ∈ I,∃o A m,ops[i]? =some o/\l5 o=some A/\(Cf P A.t=true/\uw P A.t=e)/\ur ops jC b o=some m/\∃v H1 cu,(cK P au ops o).run call jC H1=.val v cu)
 (E7:∀i j m du,i ∈ I->j ∈ I->i≠j->la ops jC b i m->la ops jC b j du->e.run m.k du.k=some false):
 ∀(τ:List Nat) (done:List Nat) (ds:List cL) (c:Nat) (H:ai),(∀i ∈ τ,i ∈ I)->(∀i ∈ done,i ∈ I)->(done++τ).Nodup->(∀m ∈ ds,∃i ∈ done,∃du,la ops jC b i du/\m.k=du.k)->H.get b=.mp ds c->
  ∃es ms fX fh,(fW P au ops (hW ops τ)).run call jC H=.ok es jC fh/\fh.get b=.mp (ds++ms) fX/\(∀k,b≠k->fh.get k=H.get k)/\(∀k,fh.set b k=H.set b k)/\(∀e ∈ es,∀k,b≠k->e.h.get k=H.get k)/\
   pM (fun i (m:cL)=>∃du,la ops jC b i du/\m.k=du.k/\m.v=du.v) τ ms
 | [],done,ds,c,H,_,_,_,_,lq=>⟨[],[],c,H,rfl,by rw [List.append_nil];exact lq,fun _ _=>rfl,fun _=>rfl,fun e he=>by simp at he,.nil⟩
 | i::τ,done,ds,c,H,FM,SJ,nv,yJ,lq=>by
   obtain ⟨o,A,m,a6,nk,⟨yP,wy⟩,hm,v,H1,cu,c2⟩:=sx i (FM i (by simp));obtain ⟨jH,Ss,ae,aH,ak⟩:=agY hm;rw [nk] at Ss;cases Ss;have re:i ∉ done:=fun h=>by rw [List.nodup_append] at nv;exact nv.2.2 i h i (by simp) rfl
   have ig:=acG yP nk c2 ae H ds c lq (fun du ns=>by obtain ⟨j,aU,aks,ae3,Fk⟩:=yJ du ns;rw [Fk,wy,<-aH];exact E7 i j m aks (FM i (by simp)) (SJ j aU) (fun e=>re (e ▸ aU)) ⟨o,a6,hm⟩ ae3);obtain ⟨_,bc,_⟩:=B8 nk;obtain ⟨es,ms,fX,fh,g1,g2,g3,g4,g6,g5⟩:=Lh sx E7 τ (done++[i]) (ds++[⟨(bT A.k).run (dA jC (b7 ops o)),(bT A.x).run (dA jC (b7 ops o)),c⟩]) (c+1)
    (H.set b (.mp (ds++[⟨(bT A.k).run (dA jC (b7 ops o)),(bT A.x).run (dA jC (b7 ops o)),c⟩]) (c+1))) (fun j aU=>FM j (by simp [aU]))
    (fun j aU=>by
      rcases List.mem_append.1 aU with h | h
      . exact SJ j h
      . simp only [List.mem_singleton] at h;subst h;exact FM j (by simp)) (by simpa using nv)
    (fun du ns=>by
      rcases List.mem_append.1 ns with h | h
      . obtain ⟨j,aU,r⟩:=yJ du h;exact ⟨j,by simp [aU],r⟩
      . simp only [List.mem_singleton] at h;subst h;exact ⟨i,by simp,m,⟨o,a6,hm⟩,aH.symm⟩) (by rw [ai.dy,if_pos rfl])
   have Tm:=G6 (os:=hW ops τ) ig (by rw [bc];exact g1);rw [show o::hW ops τ=hW ops (i::τ) from by simp [hW,a6]] at Tm;refine ⟨_,⟨(bT A.k).run (dA jC (b7 ops o)),(bT A.x).run (dA jC (b7 ops o)),c⟩::ms,fX,fh,Tm,by rw [g2,List.append_assoc];rfl,fun k aH=>?_,fun k=>?_,fun cZ eW k aH=>?_,.cons ⟨m,⟨o,a6,hm⟩,aH.symm,ak.symm⟩ g5⟩
   . rw [g3 k aH,ai.dy,if_neg aH]
   . rw [g4];unfold ai.set;simp only [T.V4]
   . rcases List.mem_cons.1 eW with rfl | eW
     . rfl
     . rw [g6 cZ eW k aH,ai.dy,if_neg aH]
def qM (E:Env):List (V × V)->List MapEntry->Prop
 | [],l=>l=[]
 | p::bm,l=>∃e es,l=e::es/\Rel E p.1 e.key/\Rel E p.2 e.val/\qM E bm es
theorem qM.perm {E:Env} {bm cy:List (V × V)} (h:bm.Perm cy):∀{l:List MapEntry},qM E cy l->∃dT,qM E bm dT/\dT.Perm l:=by
 induction h with
 | nil=>intro l h;exact ⟨l,h,.refl _⟩
 | cons x _ br=>
   intro l h;obtain ⟨e,es,rfl,aa,ad,aJ⟩:=h;obtain ⟨dT,g1,g2⟩:=br aJ;exact ⟨e::dT,⟨e,dT,rfl,aa,ad,g1⟩,g2.cons e⟩
 | swap x y fA=>
   intro l h;obtain ⟨e,es,rfl,aa,ad,cZ,gy,rfl,aJ,bE,dn⟩:=h;exact ⟨cZ::e::gy,⟨cZ,_,rfl,aJ,bE,e,gy,rfl,aa,ad,dn⟩,List.Perm.swap _ _ _⟩
 | trans _ _ Lc Ld=>
   intro l h;obtain ⟨d',g1,g2⟩:=Ld h;obtain ⟨eK,g3,g4⟩:=Lc g1;exact ⟨eK,g3,g4.trans g2⟩
theorem qM.Va {E:Env}:∀{ms:List cL} {l:List MapEntry},eH E ms l->qM E (ms.map fun m=>(m.k,m.v)) l
 | [],l,h=>h
 | m::ms,l,h=>by obtain ⟨e,es,rfl,aa,ad,_,bE⟩:=h;exact ⟨e,es,rfl,aa,ad,qM.Va bE⟩
theorem oa.Vb {E:Env}:∀{ms:List cL} {l:List MapEntry},qM E (ms.map fun m=>(m.k,m.v)) l->oa E ms l
 | [],l,h=>h
 | m::ms,l,h=>by obtain ⟨e,es,rfl,aa,ad,bE⟩:=h;exact ⟨e,es,rfl,aa,ad,oa.Vb bE⟩
theorem bf.forget {az:Fr} {E:Env} {h:ai} {w:World} (s:bf az E h w) {b:aQ} {p:jN} {es ms:List cL} {c:Nat} (aB:h.get b=.mp es c) (ag:E b=some p) (hq:(ms.map fun m=>(m.k,m.v)).Perm (es.map fun m=>(m.k,m.v))):
 bf az E (h.set b (.j4 ms)) w:=by
 have ae:=s.at ag;rw [aB] at ae;obtain ⟨p',a,gL,c_,bl,hm⟩:=ae;rw [ag] at gL;cases gL;obtain ⟨l,g1,g2⟩:=qM.perm hq (qM.Va hm);exact s.set (by rw [aB];rfl) ag c_ (Nat.le_refl _) (fun _ _=>rfl) rfl rfl rfl (fun _ _ _ e=>by cases e) ⟨p,a,c,l,ag,c_,bl,oa.Vb g1,g2⟩
theorem TQ:∀(l:List Oper),(∀o ∈ l,o.dst=none)->∀{r dc:bI} {h aA:ai} {es:List e8},(fW P au ops l).run call r h=.ok es dc aA->∀o ∈ l,∃v H1 cu,(cK P au ops o).run call r H1=.val v cu
 | [],_,_,_,_,_,_,_,o,a6=>by simp at a6
 | x::xs,bc,r,dc,h,aA,es,he,o,a6=>by
   obtain ⟨v,aa,h4,ar,av,rfl⟩:=G5 he;rcases List.mem_cons.1 a6 with rfl | a6
   . exact ⟨v,h,aa,ar⟩
   . rw [bc x (by simp)] at av;exact TQ xs (fun ck hp=>bc ck (by simp [hp])) av o a6
theorem akb {t:TypeId} {H H1:ai} {c:aQ} {off:Nat} (h:H.get c=H1.get c):(qo P t).run H (.ptr c off)=(qo P t).run H1 (.ptr c off):=by
 unfold qo;cases a_ P t with
 | none=>rfl
 | some aS=>
   simp only;cases aS.agg with
   | true=>simp only [cond_true,nD,V.jz,h]
   | false=>
     simp only [cond_false];cases Nat.beq aS.size 1 with
     | true=>simp only [cond_true,nE,V.jz,h]
     | false=>rfl
theorem acI {o:Oper} {t:TypeId} {x:Operand} (a6:o.op=.load t x) (aB:o.guard=none) {r:bI} {H1 ab:ai} {v:V} (he:(cK P au ops o).run call r H1=.val v ab) {c:aQ} {off:Nat} (ak:(bT x).run (dA r (b7 ops o))=.ptr c off)
 (H:ai) (lq:H.get c=H1.get c):(cK P au ops o).run call r H=.val v H:=by
 obtain ⟨aa,ad⟩:=kT he;have key:cK P au ops o=⟨jr none (fD P o) (b7 ops o)⟩:=by unfold cK;rw [show (fa au o.dst&&j_ (b7 ops o))=true from by rw [aa,ad];rfl,aB];rfl
 rw [key] at he ⊢;simp only [jr] at he ⊢;have we:∀H,(fD P o).run call (dA r (b7 ops o)) H=a8.of H ((qo P t).run H (.ptr c off)):=by intro H;unfold fD;rw [a6];simp only [ak]
 rw [we] at he ⊢;rw [akb lq];exact a8.xb he H
theorem Uy {es:List e8} {h:ai} {b:aQ}:∀{is:List Nat} {p:Nat},Cr P ops es h b call au is p=true->∀q i o t x,is[q]? =some i->ops[i]? =some o->o.op=.load t x->
 ∃e c off ab,es[p+q]? =some e/\(bT x).run (dA e.r (b7 ops o))=.ptr c off/\c≠b/\o.guard=none/\(cK P au ops o).run call e.r h=.val e.v ab
 | [],_,_,q,i,o,t,x,h,_,_=>by simp at h
 | j::ag9,p,ay,q,i,o,t,x,aC,a6,hG=>by
   simp only [Cr] at ay;cases q with
   | succ q=>
     cases aU:ops[j]? with
     | none=>rw [aU] at ay;cases ay
     | some aqO=>
       rw [aU] at ay;simp only [Bool.and_eq_true] at ay;have:=Uy ay.2 q i o t x (by simpa using aC) a6 hG;rw [show p + (q+1)=p+1+q from by omega];exact this
   | zero=>
     simp only [List.getElem?_cons_zero,Option.some.injEq] at aC;subst aC;rw [a6] at ay;simp only [Bool.and_eq_true] at ay;have aa:=ay.1;rw [hG] at aa;simp only at aa;rw [Nat.add_zero];cases he:es[p]? with
     | none=>rw [he] at aa;cases aa
     | some e=>
       rw [he] at aa;simp only at aa;cases ak:(bT x).run (dA e.r (b7 ops o))<;>rw [ak] at aa<;>simp only at aa<;>try (cases aa;done)
       rename_i c off;simp only [Bool.and_eq_true,Bool.not_eq_true'] at aa;cases aB:o.guard with
       | some _=>rw [aB] at aa;cases aa.2
       | none=>
         rw [aB] at aa;simp only at aa;have ad:=aa.2;cases aF:(cK P au ops o).run call e.r h with
         | fail=>rw [aF] at ad;cases ad
         | cT _ _=>rw [aF] at ad;cases ad
         | val v ab=>
           rw [aF] at ad;have bh:=Ju ad;exact ⟨e,c,off,ab,rfl,ak,(fun e=>by rw [e,aQ.yn] at aa;cases aa.1),rfl,by rw [aF,bh]⟩
theorem zg {k:Nat}:∀{l:List Nat} {p:Nat},l.Nodup->l[p]? =some k->l.idxOf k=p
 | [],_,_,h=>by simp at h
 | x::xs,p,aV,h=>by
   rw [List.nodup_cons] at aV;cases p with
   | zero=>
     simp only [List.getElem?_cons_zero,Option.some.injEq] at h;subst h;simp
   | succ p=>
     have ak:xs[p]? =some k:=by simpa using h
     have cl:x≠k:=fun e=>aV.1 (e ▸ List.mem_of_getElem? ak);rw [List.idxOf_cons];simp only [beq_iff_eq,cl,cond_false,show (x == k)=false from by simpa using cl];rw [zg aV.2 ak]
def mG (ops:Array Oper) (i:Nat):Bool:=
 match ops[i]? with
 | some o=>lv o
 | none=>false
theorem FU {o:Oper} {A:xS} (h:l5 o=some A):lv o=true/\fe P o.op=true/\ha o=false:=by obtain ⟨a6,_,_⟩:=B8 h;refine ⟨by unfold lv;rw [a6],by rw [a6];rfl,by unfold ha;rw [a6]⟩
theorem aj4 {aG:List Nat} {cC cS:Nat} {t:TypeId} (aA:Cp P ops aG cC cS t=true):∀i o,ops[i]? =some o->∃cV,(eZ [] ops.toList)[i]? =some cV/\mP i o=true/\
 (∀k ok,ops[k]? =some ok->∃mk,(eZ [] ops.toList)[k]? =some mk/\pw i cV (b7 ops o) o.dst k mk ok (Nat.blt (posOf aG k) (posOf aG i))=true)/\
 (posOf aG i<cC->lv o=false/\er P o=false/\(looks o.op=true->fe P o.op=false->∃t x,o.op=.load t x))/\
 (¬posOf aG i<cC->posOf aG i<cS->∃A,l5 o=some A/\A.t=t)/\
 (¬posOf aG i<cC->¬posOf aG i<cS->fe P o.op=false/\looks o.op=false):=by
 unfold Cp at aA;simp only [Bool.and_eq_true] at aA;replace aA:=aA.2;intro i o an;obtain ⟨cV,aa,ad⟩:=qF aA i o (by simpa using an);simp only [Nat.zero_add,Bool.and_eq_true] at ad;obtain ⟨⟨aJ,bE⟩,dn⟩:=ad;refine ⟨cV,aa,aJ,fun k ok aH=>?_,fun aO=>?_,fun jt aO=>?_,fun jt ae'=>?_⟩
 . obtain ⟨mk,bA,bx⟩:=qF bE k ok (by simpa using aH);simp only [Nat.zero_add] at bx;exact ⟨mk,bA,bx⟩
 . rw [show Nat.blt (posOf aG i) cC=true from by rw [Nat.blt_eq];exact aO] at dn;simp only [cond_true,Bool.and_eq_true,Bool.not_eq_true',Bool.or_eq_true] at dn;refine ⟨dn.1.1,dn.1.2,fun ay he=>?_⟩;rcases dn.2 with (h | h) | h
   . rw [ay] at h;cases h
   . rw [he] at h;cases h
   . cases hG:o.op<;>rw [hG] at h<;>simp only at h<;>first
      | (cases h;done)
      | exact ⟨_,_,rfl⟩
 . rw [show Nat.blt (posOf aG i) cC=false from by rw [<-Bool.not_eq_true,Nat.blt_eq];exact jt,show Nat.blt (posOf aG i) cS=true from by rw [Nat.blt_eq];exact aO] at dn;simp only [cond_true,cond_false] at dn;cases a1:l5 o with
   | none=>rw [a1] at dn;cases dn
   | some A=>rw [a1] at dn;exact ⟨A,rfl,Nat.eq_of_beq_eq_true dn⟩
 . rw [show Nat.blt (posOf aG i) cC=false from by rw [<-Bool.not_eq_true,Nat.blt_eq];exact jt,show Nat.blt (posOf aG i) cS=false from by rw [<-Bool.not_eq_true,Nat.blt_eq];exact ae'] at dn;simp only [cond_false,Bool.and_eq_true,Bool.not_eq_true'] at dn;exact dn
theorem aj5 {order:List Nat} {es:List e8} {cC:Nat} {b:aQ} {jC:bI} {A:xS} (h:F6 ops order es cC=some (b,jC,A)):
 ∃e i o,es[cC]? =some e/\order[cC]? =some i/\ops[i]? =some o/\l5 o=some A/\e.r=jC:=by
 unfold F6 at h;cases he:es[cC]? with
 | none=>rw [he] at h;cases h
 | some e=>
   rw [he] at h;simp only at h;cases an:order[cC]? with
   | none=>rw [an] at h;cases h
   | some i=>
     rw [an] at h;simp only at h;cases a6:ops[i]? with
     | none=>rw [a6] at h;cases h
     | some o=>
       rw [a6] at h;simp only at h;cases a1:l5 o with
       | none=>rw [a1] at h;cases h
       | some jH=>
         rw [a1] at h;simp only at h;cases hm:(bT jH.m).run (dA e.r (b7 ops o))<;>rw [hm] at h<;>simp only at h<;>try (cases h;done)
         simp only [Option.some.injEq,Prod.mk.injEq] at h;obtain ⟨_,ad,rfl⟩:=h;exact ⟨e,i,o,rfl,rfl,a6,a1,ad⟩
theorem UH {r:bI} {b:aQ} {f:Nat->V × V} (aA:∀i m,la ops r b i m->f i=(m.k,m.v)):∀{is:List Nat} {ms:List cL},pM (fun i (m:cL)=>∃du,la ops r b i du/\m.k=du.k/\m.v=du.v) is ms->ms.map (fun m=>(m.k,m.v))=is.map f
 | _,_,.nil=>rfl
 | _,_,.cons (a:=i) (b:=m) aX aw=>by obtain ⟨du,aa,ad,aJ⟩:=aX;simp only [List.map_cons,UH aA aw,aA i du aa,ad,aJ]
theorem zK {n:Nat} {order aG:List Nat} (hq:me n order aG=true) {p i:Nat} (h:order[p]? =some i):posOf aG i=p/\i<n:=by unfold me at hq;simp only [Bool.and_eq_true,Nat.beq_eq] at hq;obtain ⟨_,ad,_,bE⟩:=hq;have:=uL bE h;rw [Nat.zero_add] at this;refine ⟨by unfold posOf;rw [this];rfl,?_⟩;have:=(List.getElem?_eq_some_iff.1 this).1;omega
theorem akR {l:List Nat} {f:Nat->Nat} (h:∀p i,l[p]? =some i->f i=p):l.Nodup:=by rw [List.Nodup,List.pairwise_iff_getElem];intro i j an aU np he;have aa:=h i _ (List.getElem?_eq_getElem an);have ad:=h j _ (List.getElem?_eq_getElem aU);rw [he,ad] at aa;omega
theorem pM.left {α β:Type} {R:α->β->Prop}:∀{d':List α} {eK:List β},pM R d' eK->∀x ∈ d',∃y ∈ eK,R x y
 | _,_,.nil,x,h=>by simp at h
 | _,_,.cons aX aw,x,h=>by
   rcases List.mem_cons.1 h with rfl | h
   . exact ⟨_,by simp,aX⟩
   . obtain ⟨y,aa,ad⟩:=aw.left x h;exact ⟨y,by simp [aa],ad⟩
theorem ag5 {o:Oper} (h:lv o=true):fe P o.op=true/\ha o=false:=by
 unfold lv at h;unfold ha;cases a6:o.op<;>rw [a6] at h<;>simp only at h<;>first
  | (cases h;done)
  | exact ⟨rfl,rfl⟩
theorem an0 {pre σ post:List Nat} (nv:(pre++(σ++post)).Nodup) (k q:Nat):(pre[q]? =some k->(pre++(σ++post)).idxOf k=q)/\(σ[q]? =some k->(pre++(σ++post)).idxOf k=pre.length+q)/\(post[q]? =some k->(pre++(σ++post)).idxOf k=pre.length+σ.length+q):=by
 refine ⟨fun h=>zg nv ?_,fun h=>zg nv ?_,fun h=>zg nv ?_⟩
 . have:=(List.getElem?_eq_some_iff.1 h).1;rw [List.getElem?_append_left this];exact h
 . have:=(List.getElem?_eq_some_iff.1 h).1;rw [List.getElem?_append_right (by omega),Nat.add_sub_cancel_left,List.getElem?_append_left this];exact h
 . rw [List.getElem?_append_right (by omega),List.getElem?_append_right (by omega)];rw [show pre.length+σ.length+q-pre.length-σ.length=q from by omega];exact h
theorem aj6 {rd:Option Nat} {D:List Deferred} {az:Fr} {calls:Nat->dU} {es:List e8} {bq:bI} {aX:ai} {dc:bI} {aA:ai} {eE order aG:List Nat} (bJ:eT P) (c1:∀i,hi P (calls i)) (dN:∀i,hx P (calls i))
 (C:Cert P au ops calls es bq aX dc aA eE order aG ops.size ops.size true) {fp:Env} {Q:Exit->Act->World->Prop}
 (cO:∀ax bu ao,fp.le ax->RegRel0 ax au dc bu->bu.defers=D->bf az ax aA ao->Q .normal bu ao) {tB:List Nat}
 (cU:∀i k,mG ops i=true->mG ops k=true->posOf aG k<posOf aG i->∀a b,tB=a++i::b->k ∈ a):
 ∀(fuel t:Nat) (listed:Array Bool) (done:List Nat) (a:Act) (w:World),tB=done++Region.linearise.go .any ops fuel t listed []->(∀k,k<ops.size->(listed.getD k false=true↔k ∈ done))->
  (List.range ops.size).countP (fun i=>!listed.getD i false)<=fuel->qG P az au ops es bq aA eE aG fp ops.size D listed a w->wpOpsIn (cA rd) 0 P ops Q (Region.linearise.go .any ops fuel t listed []) a w:=by
 have iR:∀i o,ops[i]? =some o->mP i o=true:=fun i o h=>by obtain ⟨_,_,ad,_⟩:=C.kf i o h;exact ad
 have fin:∀(listed:Array Bool) (a:Act) (w:World),(∀k,k<ops.size->listed.getD k false=true)->qG P az au ops es bq aA eE aG fp ops.size D listed a w->Q .normal a w:=by intro listed a w eh I;obtain ⟨ax,g1,g2,g3,g4⟩:=Rq C (Nat.le_refl _) I fun k aH _=>eh k aH;exact cO ax a w g1 g2 g3 g4
 intro fuel
 induction fuel with
 | zero=>
   intro t listed done a w og Kq aD I;have aX:(List.range ops.size).countP (fun i=>!listed.getD i false)=0:=by omega
   rw [List.countP_eq_zero] at aX;exact fin listed a w (fun k aH=>by simpa using aX k (List.mem_range.2 aH)) I
 | succ fuel br=>
   intro t listed done a w og Kq aD I;rw [go_succ] at og ⊢;cases aF:xn ops t listed with
   | none=>exact fin listed a w (fun k aH=>zM iR I.sY (Wd aF) k aH) I
   | some i=>
     rw [aF] at og;simp only at og ⊢;obtain ⟨i1,i2⟩:=xo I.sY (MD aF);have ay:i<listed.size:=by rw [I.sY];exact i1
     have apY:=count_set I.sY i1 i2;rw [wpOpsIn_cons];refine Rz bJ c1 dN C I (MD aF) (C.iE i i1).1 (fun _ o k ok cF wv Fl afp aO=>?_) (fun bu ao HD=>br _ _ (done++[i]) bu ao (by rw [List.append_assoc];exact og) (fun k aH=>?_) (by omega) HD) (fun _ _ _ _ _ _ _ h=>absurd h (Nat.lt_irrefl _))
     . have aH:k<ops.size:=(Array.getElem?_eq_some_iff.1 Fl).1;exact (Kq k aH).2 (cU i k (by unfold mG;rw [cF];exact wv) (by unfold mG;rw [Fl];exact afp) aO _ _ og)
     . rw [gh ay,Kq k aH,List.mem_append,List.mem_singleton];exact Or.comm
def Jr (ops:Array Oper) (r:bI) (b:aQ) (i:Nat):V × V:=
 match ops[i]? with
 | some o=>(match ur ops r b o with
   | some m=>(m.k,m.v)
   | none=>(.bad,.bad))
 | none=>(.bad,.bad)
theorem RG {r:bI} {b:aQ} {i:Nat} {m:cL} (h:la ops r b i m):Jr ops r b i=(m.k,m.v):=by obtain ⟨o,aa,ad⟩:=h;unfold Jr;rw [aa];simp only [ad]
theorem UI {r:bI} {b:aQ}:∀{is:List Nat} {ms:List cL},pM (la ops r b) is ms->ms.map (fun m=>(m.k,m.v))=is.map (Jr ops r b)
 | _,_,.nil=>rfl
 | _,_,.cons aX aw=>by simp only [List.map_cons,UI aw,RG aX]
theorem aj8 {rd:Option Nat} {az:Fr} {E:Env} {h:ai} {w:World} {id:Nat} (dE:P.follows .mixedOrders=true) (bJ:eT P) (c1:hi P call) (dN:hx P call) {r:bI} {a:Act} {order aG:List Nat} {cC cS:Nat} (hq:me ops.size order aG=true)
 {Q:Exit->Act->World->Prop} (ag:n1 az E au (Q .normal) Q (Lz P au ops order aG cC cS (fW P au ops (hW ops order)) call r h)) (k:fL E au r a) (s:bf az E h w):(Code.region id ops true).wpIn (cA rd) 0 P Q a w:=by
 unfold Lz at ag;cases c2:(fW P au ops (hW ops order)).run call r h with
 | fail=>rw [c2] at ag;exact ag.elim
 | cT _ _ _ _ _=>rw [c2] at ag;exact ag.elim
 | ok es e5 bl=>
 rw [c2] at ag;simp only at ag;cases nt:F6 ops order es cC with
 | none=>rw [nt] at ag;exact ag.elim
 | some x=>
 obtain ⟨b,jC,A⟩:=x;rw [nt] at ag;simp only at ag;cases kC:(cq es bl cC).get b<;>rw [kC] at ag<;>try (exact False.elim ag)
 rename_i ac7 tH;cases ac7 with
 | cons _ _=>exact False.elim ag
 | nil=>
 simp only at ag;cases yV:wS ops jC b ((order.drop cC).take (cS-cC)) with
 | none=>rw [yV] at ag;exact ag.elim
 | some ms=>
 rw [yV] at ag;simp only at ag;cases aD:(Cp P ops aG cC cS A.t&&(AP (uw P A.t) ms&&(Cr P ops es (cq es bl cC) b call au (order.take cC) 0&&Be ((bT A.m).run e5) (.map b)))) with
 | false=>rw [aD] at ag;exact ag.elim
 | true=>
 rw [aD] at ag;simp only [cond_true] at ag;simp only [Bool.and_eq_true] at aD;obtain ⟨Fp,E7,eD,sC⟩:=aD;have sC:=Ju sC;obtain ⟨kG,VJ,aqU⟩:=VF hq;have KC:order.Nodup:=akR fun p i h=>(zK hq h).1;obtain ⟨c0,i0,iC,J7,wu,afK,Bm,ae4⟩:=aj5 nt;obtain ⟨amf,-,-,-⟩:=uZ c2;have hlen:es.length=ops.size:=by rw [amf,qs,kG]
 have jv:cC<ops.size:=by rw [<-kG];exact (List.getElem?_eq_some_iff.1 wu).1
 have kf:=aj4 Fp;generalize rf:order.take cC=pre at eD;generalize wv:(order.drop cC).take (cS-cC)=ins at yV;generalize Tb:(order.drop cC).drop (cS-cC)=post;have qc:order=pre++(ins++post):=by rw [<-rf,<-wv,<-Tb,List.take_append_drop,List.take_append_drop]
 have yZ:pre.length=cC:=by rw [<-rf,List.length_take];omega
 have ap_:cC<cS:=by
  obtain ⟨wD,_⟩:=zK hq wu;rcases Nat.lt_or_ge cC cS with h | h
  . exact h
  . exfalso;obtain ⟨_,_,_,_,_,_,f3⟩:=kf i0 iC afK;obtain ⟨ak,_⟩:=f3 (by omega) (by omega);rw [(FU (P:=P) Bm).2.1] at ak;cases ak
 have afl:ins.length=cS-cC\/post=[]:=by
  rcases Nat.lt_or_ge (cS-cC) (order.drop cC).length with h | h
  . left;rw [<-wv,List.length_take];omega
  . right;rw [<-Tb];exact List.drop_eq_nil_of_le h
 have Ip:∀q i,pre[q]? =some i->posOf aG i=q/\i<ops.size/\q<cC:=by intro q i h;have aC:=(List.getElem?_eq_some_iff.1 h).1;obtain ⟨aa,ad⟩:=zK hq (p:=q) (i:=i) (by rw [qc,List.getElem?_append_left aC];exact h);exact ⟨aa,ad,by omega⟩
 have Im:∀q i,ins[q]? =some i->posOf aG i=cC+q/\i<ops.size/\cC+q<cS:=by
  intro q i h;have aC:=(List.getElem?_eq_some_iff.1 h).1;obtain ⟨aa,ad⟩:=zK hq (p:=cC+q) (i:=i) (by rw [qc,List.getElem?_append_right (by omega),yZ,Nat.add_sub_cancel_left,List.getElem?_append_left aC];exact h);refine ⟨aa,ad,?_⟩;have:ins.length<=cS-cC:=by rw [<-wv,List.length_take];omega
  omega
 have Io:∀q i,post[q]? =some i->posOf aG i=cC+ins.length+q/\i<ops.size/\ins.length=cS-cC:=by
  intro q i h;have ay:ins.length=cS-cC:=by
   rcases afl with ab | ab
   . exact ab
   . rw [ab] at h;simp at h
  obtain ⟨aa,ad⟩:=zK hq (p:=cC+ins.length+q) (i:=i) (by rw [qc,List.getElem?_append_right (by omega),List.getElem?_append_right (by omega),yZ,show cC+ins.length+q-cC-ins.length=q from by omega];exact h);exact ⟨aa,ad,ay⟩
 have XU:∀i,i<ops.size->(∃q:Nat,pre[q]? =some i)\/(∃q:Nat,ins[q]? =some i)\/∃q:Nat,post[q]? =some i:=by
  intro i an;have hm:i ∈ order:=List.mem_of_getElem? (VJ i an).2;rw [qc,List.mem_append,List.mem_append] at hm;rcases hm with h | h | h
  . exact .inl (List.mem_iff_getElem?.1 h)
  . exact .inr (.inl (List.mem_iff_getElem?.1 h))
  . exact .inr (.inr (List.mem_iff_getElem?.1 h))
 have Mg:∀i o,i ∈ pre->ops[i]? =some o->lv o=false/\er P o=false/\(looks o.op=true->fe P o.op=false->∃t x,o.op=.load t x):=by intro i o an a6;obtain ⟨q,aC⟩:=List.mem_iff_getElem?.1 an;obtain ⟨aa,ad,aJ⟩:=Ip q i aC;obtain ⟨_,_,_,_,f1,_,_⟩:=kf i o a6;exact f1 (by omega)
 have B9:∀i,i ∈ ins->∃o jH,ops[i]? =some o/\l5 o=some jH/\jH.t=A.t:=by intro i an;obtain ⟨q,aC⟩:=List.mem_iff_getElem?.1 an;obtain ⟨aa,ad,aJ⟩:=Im q i aC;obtain ⟨_,_,_,_,_,f2,_⟩:=kf i _ (Array.getElem?_eq_getElem ad);obtain ⟨jH,g1,g2⟩:=f2 (by omega) (by omega);exact ⟨_,jH,Array.getElem?_eq_getElem ad,g1,g2⟩
 have CS:∀i o,i ∈ post->ops[i]? =some o->fe P o.op=false/\looks o.op=false:=by intro i o an a6;obtain ⟨q,aC⟩:=List.mem_iff_getElem?.1 an;obtain ⟨aa,ad,aJ⟩:=Io q i aC;obtain ⟨_,_,_,_,_,_,f3⟩:=kf i o a6;exact f3 (by omega) (by omega)
 have Le:∀i,i<ops.size->(mG ops i=true↔i ∈ ins):=by
  intro i an;have cF:ops[i]? =some ops[i]:=Array.getElem?_eq_getElem an;constructor
  . intro h;unfold mG at h;rw [cF] at h;simp only at h;rcases XU i an with ⟨q,aC⟩ | ⟨q,aC⟩ | ⟨q,aC⟩
    . rw [(Mg i _ (List.mem_of_getElem? aC) cF).1] at h;cases h
    . exact List.mem_of_getElem? aC
    . have:=(CS i _ (List.mem_of_getElem? aC) cF).1;rw [(ag5 (P:=P) h).1] at this;cases this
  . intro h;obtain ⟨o,jH,g1,g2,_⟩:=B9 i h;unfold mG;rw [g1];exact (FU (P:=P) g2).1
 have KD:ins.Nodup:=by rw [qc] at KC;exact (List.nodup_append.1 (List.nodup_append.1 KC).2.1).1
 have BS:=c2;rw [qc,CI,CI] at BS;obtain ⟨h4,bw,aa,ac8,sJ,Td,o9⟩:=M7 _ _ BS;obtain ⟨qV,cw,ad,Jv,l0,afY,ap2⟩:=M7 _ _ Td;obtain ⟨d',-,-,-⟩:=uZ sJ;rw [qs,yZ] at d';obtain ⟨-,b2,b0,-⟩:=uZ Td;have SL:ac8[0]? =some c0:=by rw [o9,List.getElem?_append_right (by omega),d',Nat.sub_self] at J7;exact J7
 have af0:bw=jC:=by unfold ey at b0;rw [SL] at b0;exact b0.symm.trans ae4
 have afe:cq es bl cC=aa:=by unfold cq at b2 ⊢;rw [J7];rw [SL] at b2;exact b2
 subst af0;rw [afe] at kC eD;have sx:∀i ∈ ins,∃o jH m,ops[i]? =some o/\l5 o=some jH/\(Cf P jH.t=true/\uw P jH.t=uw P A.t)/\ur ops bw b o=some m/\∃v H1 cu,(cK P au ops o).run call bw H1=.val v cu:=by
  intro i an;obtain ⟨o,jH,g1,g2,g3⟩:=B9 i an;obtain ⟨m,_,ck,g4,g5⟩:=(FR yV).left i an;rw [g1] at g4;cases g4;refine ⟨o,jH,m,g1,g2,⟨by rw [g3];unfold Cp at Fp;rw [Bool.and_eq_true] at Fp;exact Fp.1,by rw [g3]⟩,g5,TQ (hW ops ins) (fun dq nw=>?_) l0 o ?_⟩
  . obtain ⟨q,aC⟩:=List.mem_iff_getElem?.1 nw;have rh:q<ins.length:=by rw [<-qs (ops:=ops)];exact (List.getElem?_eq_some_iff.1 aC).1
    obtain ⟨aqK,pL,Cd,wU,_⟩:=B9 _ (List.getElem_mem rh);have:=nI (List.getElem?_eq_getElem rh) Cd;rw [aC] at this;cases this;exact (B8 wU).2.1
  . obtain ⟨q,aC⟩:=List.mem_iff_getElem?.1 an;exact List.mem_of_getElem? (nI aC g1)
 have E8:=O4 (FR yV) KD E7;obtain ⟨apI,aqD,apA,mW,JE,apL,apM,adF,_,apN⟩:=Lh sx E8 ins [] [] tH aa (fun i an=>an) (fun i an=>by simp at an) (by simpa using KD) (fun m hm=>by simp at hm) kC;rw [l0] at JE;simp only [qH.ok.injEq] at JE;obtain ⟨-,afX,aen⟩:=JE;subst afX aen;obtain ⟨Kj,afW⟩:=V7 (hW ops post) (fun dq nw=>by
  obtain ⟨q,aC⟩:=List.mem_iff_getElem?.1 nw;have rh:q<post.length:=by rw [<-qs (ops:=ops)];exact (List.getElem?_eq_some_iff.1 aC).1
  obtain ⟨_,SU,_⟩:=Io q _ (List.getElem?_eq_getElem rh);have:=nI (List.getElem?_eq_getElem rh) (Array.getElem?_eq_getElem SU);rw [aC] at this;cases this;exact CS _ _ (List.getElem_mem rh) (Array.getElem?_eq_getElem SU)) afY
 subst Kj;refine wpIn_region_draw fun t=>?_;simp only [Region.schedule,dE,Bool.true_or,if_true];have iR:∀i o,ops[i]? =some o->mP i o=true:=fun i o h=>by obtain ⟨_,_,ad,_⟩:=kf i o h;exact ad
 have dI:∀k,¬(Array.replicate ops.size false).getD k false=true:=by
  intro k;rw [tW,Array.getElem?_replicate]
  split<;>simp
 obtain ⟨s1,s2,kM⟩:=Sj (ops:=ops) iR ops.size t (Array.replicate ops.size false) (by simp) (Nat.le_trans List.countP_le_length (by simp));change wpOpsIn (cA rd) 0 P ops Q (Region.linearise.go .any ops ops.size t (Array.replicate ops.size false) []) a {w with drawn:=w.drawn+1};generalize og:Region.linearise.go .any ops ops.size t (Array.replicate ops.size false) []=tB at s1 s2 kM;generalize K':tB.filter (mG ops)=σ;have LK:∀k,k ∈ σ↔k ∈ ins:=by
  intro k;rw [<-K',List.mem_filter];constructor
  . rintro ⟨g1,g2⟩;exact (Le k (s2 k g1).1).1 g2
  . intro g;obtain ⟨q,aC⟩:=List.mem_iff_getElem?.1 g;have aH:=(Im q k aC).2.1;refine ⟨?_,(Le k aH).2 g⟩;rcases kM k aH with h | h
    . exact absurd h (dI k)
    . exact h
 have S5:σ.Nodup:=by rw [<-K'];exact s1.filter _
 have KN:σ.Perm ins:=(List.perm_ext_iff_of_nodup S5 KD).2 LK;have TC:σ.length=ins.length:=KN.length_eq;have lZ:(pre++(σ++post)).Perm order:=by rw [qc];exact (KN.append_right post).append_left pre
 have KE:(pre++(σ++post)).Nodup:=lZ.nodup_iff.2 KC;have BD:(pre++(σ++post)).length=ops.size:=by rw [lZ.length_eq,kG]
 have D9:=an0 KE;generalize afR:(List.range ops.size).map (fun k=>(pre++(σ++post)).idxOf k)=k7;have yY:∀k,k<ops.size->posOf k7 k=(pre++(σ++post)).idxOf k:=by intro k aH;rw [<-afR];unfold posOf;rw [List.getElem?_map,List.getElem?_range aH];rfl
 have CM:∀i,i<ops.size->i ∈ pre->posOf k7 i=posOf aG i/\posOf aG i<cC:=by intro i an hm;obtain ⟨q,aC⟩:=List.mem_iff_getElem?.1 hm;obtain ⟨g1,_,g3⟩:=Ip q i aC;rw [yY i an,(D9 i q).1 aC,g1];exact ⟨rfl,g3⟩
 have CL:∀i,i<ops.size->i ∈ ins->∃q:Nat,σ[q]? =some i/\posOf k7 i=cC+q/\q<ins.length/\cC<=posOf aG i/\posOf aG i<cC+ins.length:=by intro i an hm;obtain ⟨q,aC⟩:=List.mem_iff_getElem?.1 ((LK i).2 hm);obtain ⟨ec,oq⟩:=List.mem_iff_getElem?.1 hm;obtain ⟨g1,_,g3⟩:=Im ec i oq;have:=(List.getElem?_eq_some_iff.1 aC).1;have:=(List.getElem?_eq_some_iff.1 oq).1;exact ⟨q,aC,by rw [yY i an,(D9 i q).2.1 aC,yZ],by omega,by omega,by omega⟩
 have Ma:∀i,i<ops.size->i ∈ post->posOf k7 i=posOf aG i/\cC+ins.length<=posOf aG i:=by intro i an hm;obtain ⟨q,aC⟩:=List.mem_iff_getElem?.1 hm;obtain ⟨g1,_,_⟩:=Io q i aC;rw [yY i an,(D9 i q).2.2 aC,g1,TC,yZ];exact ⟨rfl,by omega⟩
 have cls:∀i,i<ops.size->i ∈ pre\/i ∈ ins\/i ∈ post:=by
  intro i an;rcases XU i an with ⟨q,aC⟩ | ⟨q,aC⟩ | ⟨q,aC⟩
  . exact .inl (List.mem_of_getElem? aC)
  . exact .inr (.inl (List.mem_of_getElem? aC))
  . exact .inr (.inr (List.mem_of_getElem? aC))
 obtain ⟨vS,aqE,IZ,An,Sa,adH,adI,adJ,adL,adK⟩:=Lh sx E8 σ [] [] tH aa (fun i an=>(LK i).1 an) (fun i an=>by simp at an) (by simpa using S5) (fun m hm=>by simp at hm) kC;obtain ⟨yr,afZ⟩:=afW An;have Ti:=M8 _ _ sJ (M8 _ _ Sa afZ);rw [<-CI,<-CI] at Ti;obtain ⟨ajw,-,-,-⟩:=uZ Sa;rw [qs,TC] at ajw;obtain ⟨b6,z2,z3,z4⟩:=uZ Ti;rw [qs,BD] at b6;have VK:∀k,k<ops.size->posOf k7 k<ops.size/\(pre++(σ++post))[posOf k7 k]? =some k:=by intro k aH;have hm:k ∈ pre++(σ++post):=lZ.mem_iff.2 (List.mem_of_getElem? (VJ k aH).2);obtain ⟨q,aC⟩:=List.mem_iff_getElem?.1 hm;have KP:=zg KE aC;rw [yY k aH,KP];have:=(List.getElem?_eq_some_iff.1 aC).1;exact ⟨by omega,aC⟩
 have alA:∀p,p<ops.size->∃i,i<ops.size/\posOf k7 i=p:=by intro p ag;have aC:(pre++(σ++post))[p]? =some ((pre++(σ++post))[p]'(by omega)):=List.getElem?_eq_getElem _;have hm:(pre++(σ++post))[p]'(by omega) ∈ order:=lZ.mem_iff.1 (List.getElem_mem _);obtain ⟨q,y0⟩:=List.mem_iff_getElem?.1 hm;have aO:=(zK hq y0).2;exact ⟨_,aO,by rw [yY _ aO];exact zg KE aC⟩
 have Q5:∀j o,ops[j]? =some o->er P o=true->j ∈ ins:=by
  intro j o a6 mv;rcases cls j (Array.getElem?_eq_some_iff.1 a6).1 with h | h | h
  . rw [(Mg j o h a6).2.1] at mv;cases mv
  . exact h
  . unfold er at mv;rw [(CS j o h a6).1] at mv;cases mv
 have Lf:∀k ok,k ∈ ins->ops[k]? =some ok->ok.dst=none/\lv ok=true:=by intro k ok aH bK;obtain ⟨o,jH,g1,g2,_⟩:=B9 k aH;rw [bK] at g1;cases g1;exact ⟨(B8 g2).2.1,(FU (P:=P) g2).1⟩
 have Z4:∀st,st=ops.size\/(∃k,k<ops.size/\k ∈ ins/\st=posOf k7 k)->∀c,b≠c->(cq (h4++(vS++yr)) An st).get c=aa.get c:=by
  rintro st (rfl | ⟨k,aH,g',rfl⟩) c aD
  . unfold cq;rw [List.getElem?_eq_none (by omega)];exact adI c aD
  . obtain ⟨q,_,g2,g3,_⟩:=CL k aH g';have KQ:q<vS.length:=by omega
    unfold cq;rw [g2,List.getElem?_append_right (by omega),d',Nat.add_sub_cancel_left,List.getElem?_append_left KQ,List.getElem?_eq_getElem KQ];exact adL _ (List.getElem_mem KQ) c aD
 have C:Cert P au ops (fun _=>call) (h4++(vS++yr)) r h e5 An (h7 P k7 0 ops.toList) (pre++(σ++post)) k7 ops.size ops.size true:=by
  refine ⟨b6,Nat.le_refl _,Nat.le_refl _,VK,alA,z2,z3,?_,?_,?_,?_,?_,?_,fun h=>absurd h (Nat.lt_irrefl _),fun h=>absurd h (Nat.lt_irrefl _)⟩
  . intro i o a6 _;exact z4 _ o (nI (VK i (Array.getElem?_eq_some_iff.1 a6).1).2 a6)
  . intro i o cF;obtain ⟨cV,f1,f2,f3,_⟩:=kf i o cF;refine ⟨cV,f1,f2,fun _ k ok bK _=>?_⟩;obtain ⟨mk,f4,f5⟩:=f3 k ok bK;have an:i<ops.size:=(Array.getElem?_eq_some_iff.1 cF).1;have aH:k<ops.size:=(Array.getElem?_eq_some_iff.1 bK).1;refine ⟨mk,f4,?_,fun he mv aO=>?_⟩
    . by_cases g':k ∈ ins
      . unfold pw;rw [(Lf k ok g' bK).1];simp
      . have ae:Nat.blt (posOf k7 k) (posOf k7 i)=Nat.blt (posOf aG k) (posOf aG i):=by
         rw [Bool.eq_iff_iff,Nat.blt_eq,Nat.blt_eq];rcases cls k aH with aD | aD | aD
         . obtain ⟨bW,a2⟩:=CM k aH aD;rcases cls i an with bc | bc | bc
           . obtain ⟨cb,b9⟩:=CM i an bc;omega
           . obtain ⟨q,_,b9,e3,iv,jb⟩:=CL i an bc;omega
           . obtain ⟨cb,b9⟩:=Ma i an bc;omega
         . exact absurd aD g'
         . obtain ⟨bW,a2⟩:=Ma k aH aD;rcases cls i an with bc | bc | bc
           . obtain ⟨cb,b9⟩:=CM i an bc;omega
           . obtain ⟨q,_,b9,e3,iv,jb⟩:=CL i an bc;omega
           . obtain ⟨cb,b9⟩:=Ma i an bc;omega
        rw [ae];exact f5
    . have g':=Q5 k ok bK mv;obtain ⟨aqW,_,b9,e3,iv,jb⟩:=CL k aH g';rcases cls i an with bc | bc | bc
      . obtain ⟨bW,a2⟩:=CM i an bc;omega
      . exact .inr ⟨rfl,(Lf i o bc cF).2,(Lf k ok g' bK).2⟩
      . rw [(CS i o bc cF).1] at he;cases he
  . have:=F3 (P:=P) (aG:=k7) (l:=ops.toList) (i:=0);simpa using this
  . intro j o g1 g2;have:=zp (P:=P) (aG:=k7) (i:=0) (j:=j) (l:=ops.toList) (o:=o) (by simpa using g1) g2;simpa using this
  . intro st cR;rcases uB cR with h | ⟨j,o,g1,g2,g3⟩
    . exact .inl (.inl (by simpa using h))
    . exact .inr ⟨j,o,by simpa using g1,g2,by simpa using g3⟩
  . intro j o ra ay he _;have aU:j<ops.size:=(Array.getElem?_eq_some_iff.1 ra).1;have oj:j ∈ pre:=by
     rcases cls j aU with bc | bc | bc
     . exact bc
     . obtain ⟨ck,jH,g1,g2,_⟩:=B9 j bc;rw [ra] at g1;cases g1;rw [(FU (P:=P) g2).2.1] at he;cases he
     . rw [(CS j o bc ra).2] at ay;cases ay
    obtain ⟨u1,X1,hG⟩:=(Mg j o oj ra).2.2 ay he;obtain ⟨q,aC⟩:=List.mem_iff_getElem?.1 oj;obtain ⟨bW,_,a3⟩:=Ip q j aC;obtain ⟨e,c,off,ab,e7,fJ,y3,y4,NI⟩:=Uy eD q j o u1 X1 aC ra hG;have ae1:(h4++(vS++yr))[posOf k7 j]? =some e:=by rw [(CM j aU oj).1,bW,List.getElem?_append_left (by omega)];rw [Nat.zero_add,o9,List.getElem?_append_left (by omega)] at e7;exact e7
    refine ⟨e,ae1,fun st cR _=>⟨call,_,⟨c1,dN⟩,acI hG y4 NI fJ _ (Z4 st ?_ c fun h=>y3 h.symm)⟩⟩;rcases uB cR with h | ⟨bj,ck,g1,g2,g3⟩
    . exact .inl (by simpa using h)
    . have Fx:ops[bj]? =some ck:=by simpa using g1
      exact .inr ⟨bj,(Array.getElem?_eq_some_iff.1 Fx).1,Q5 bj ck Fx g2,by simpa using g3⟩
 have lU:∀(ax:Env) (bu:Act),E.le ax->bu.defers=a.defers->∀(bD:bI),T.get .bad e_ bD=T.get .bad e_ r->lK ax (T.get .bad e_ bD) bu.defers:=fun ax bu he bc bD sI=>by rw [sI,bc];exact k.defers.mono he
 have Fc:T.get .bad e_ e5=T.get .bad e_ r:=by have:=C.Jj ops.size (Nat.le_refl _);have KF:(h4++(vS++yr))[ops.size]? =none:=List.getElem?_eq_none (by omega);unfold ey at this;rw [KF] at this;exact this
 have kE:Holds az az (h4++(vS++yr)) An k7 (ks ops (h4++(vS++yr)) An k7 (Array.replicate ops.size false) 0):=
  ⟨rfl,fun _ _=>rfl,fun k aH=>(by obtain ⟨_,_,_,_,aX⟩:=aH;omega),fun k bj aH=>(by obtain ⟨_,_,_,_,aX⟩:=aH;omega)⟩
 obtain ⟨hX,fq,g1,g2,g3,g4,g5,g6⟩:=C.advance ops.size 0 (by omega) (fun k o _ _ _=>dI k) az kE (E:=E) (w:={w with drawn:=w.drawn}) (by rw [C.aX];exact s.same rfl rfl rfl rfl);rw [<-og];refine aj6 (az:=az) bJ (fun _=>c1) (fun _=>dN) C (fp:=E) (D:=a.defers) (tB:=tB) (fun ax bu ao ar av aK bU=>?_) (fun i k an aH aO bu bL yF=>?_) ops.size t _ [] a _ (by rw [og];rfl) (fun k _=>⟨fun h=>absurd h (dI k),fun h=>by simp at h⟩) (Nat.le_trans List.countP_le_length (by simp)) ?_
 . refine ag ax bu ao ar ⟨av,lU ax bu ar aK e5 Fc⟩ ?_;have kH:=dM av A.m;rw [sC] at kH;simp only [Rel] at kH;obtain ⟨p,aem,_⟩:=kH;rw [adF,<-adJ];refine bU.forget adH aem ?_;rw [List.nil_append,UI (FR yV),UH (fun i m h=>RG h) adK];exact KN.symm.map _
 . have oi:i<ops.size:=by
    unfold mG at an;cases a6:ops[i]? with
    | none=>rw [a6] at an;cases an
    | some o=>exact (Array.getElem?_eq_some_iff.1 a6).1
   have Kl:k<ops.size:=by
    unfold mG at aH;cases a6:ops[k]? with
    | none=>rw [a6] at aH;cases aH
    | some o=>exact (Array.getElem?_eq_some_iff.1 a6).1
   have g':=(Le k Kl).1 aH;have TB:σ=bu.filter (mG ops)++i::bL.filter (mG ops):=by rw [<-K',yF,List.filter_append,List.filter_cons_of_pos an]
   have ki:posOf k7 i=cC + (bu.filter (mG ops)).length:=by rw [yY i oi,(D9 i (bu.filter (mG ops)).length).2.1 (by rw [TB,List.getElem?_append_right (Nat.le_refl _),Nat.sub_self];rfl),yZ]
   obtain ⟨q,aC,Fz,_⟩:=CL k Kl g';have rh:q < (bu.filter (mG ops)).length:=by omega
   rw [TB,List.getElem?_append_left rh] at aC;exact (List.mem_filter.1 (List.mem_of_getElem? aC)).1
 . refine ⟨by simp,k.size,rfl,fun bj aH=>absurd aH (dI bj),fun bj o e aH=>absurd aH (dI bj),E,hX,fq,Env.le.refl E,g1,g3,fun bj o aa ad=>⟨fun h=>absurd h (dI bj),fun h=>by have:=g4 bj o aa ad (Nat.zero_le _);omega⟩,
    fun bj o _ _ h=>absurd h (dI bj),g5,?_,fun t aw=>.inr ⟨fun bj o aH=>absurd aH (dI bj),k.aq t aw⟩⟩
   exact g6.same rfl rfl rfl rfl
theorem acM {rd:Option Nat} {az:Fr} {E:Env} {h:ai} {w:World} {id:Nat} (dE:P.follows .mixedOrders=true) (bJ:eT P) (c1:hi P call) (dN:hx P call) {r:bI} {a:Act}
 {Q:Exit->Act->World->Prop} (ag:n1 az E au (Q .normal) Q ((Jf P au ops).run call r h)) (k:fL E au r a) (s:bf az E h w):(Code.region id ops true).wpIn (cA rd) 0 P Q a w:=by
 unfold Jf at ag;generalize CK P ops=order at ag;generalize GK order 0 ops.toList=aG at ag;unfold Rx at ag;cases aA:(me ops.size order aG&&yj P ops aG) with
 | false=>
   rw [aA] at ag;simp only [cond_false] at ag;cases jX:(me ops.size order aG&&C5 P ops order aG) with
   | false=>
     rw [jX] at ag;simp only [cond_false] at ag;cases Kb:me ops.size order aG with
     | false=>rw [Kb] at ag;exact ag.elim
     | true=>
       rw [Kb] at ag;simp only [cond_true] at ag;exact aj8 dE bJ c1 dN Kb ag k s
   | true=>
     rw [jX] at ag;simp only [cond_true] at ag;simp only [Bool.and_eq_true] at jX;exact acN dE bJ c1 dN jX.1 jX.2 ag k s
 | true=>
   rw [aA] at ag;simp only [cond_true] at ag;simp only [Bool.and_eq_true] at aA;obtain ⟨hq,gI⟩:=aA;unfold me at hq;simp only [Bool.and_eq_true,Nat.beq_eq] at hq;obtain ⟨kG,nw,sE,sF⟩:=hq;have iE:∀k,k<ops.size->posOf aG k<ops.size/\order[posOf aG k]? =some k:=by
    intro k aH;have aB:aG[k]? =some (posOf aG k):=by unfold posOf;rw [List.getElem?_eq_getElem (by omega)];rfl
    have:=uL sE aB;rw [Nat.zero_add] at this;exact ⟨by have:=(List.getElem?_eq_some_iff.1 this).1;omega,this⟩
   have lE:∀p,p<ops.size->∃i,i<ops.size/\posOf aG i=p:=by intro p ag;have aB:order[p]? =some (order[p]'(by omega)):=List.getElem?_eq_getElem (by omega);have:=uL sF aB;rw [Nat.zero_add] at this;refine ⟨order[p]'(by omega),by have:=(List.getElem?_eq_some_iff.1 this).1;omega,?_⟩;unfold posOf;rw [this];rfl
   have M6:∀j o,ops[j]? =some o->er P o=true->posOf aG j ∈ h7 P aG 0 ops.toList:=fun j o aa ad=>by simpa using zp (aG:=aG) (i:=0) (j:=j) (l:=ops.toList) (by simpa using aa) ad
   have anw:ops.size ∈ h7 P aG 0 ops.toList:=by simpa using F3 (P:=P) (aG:=aG) (l:=ops.toList) (i:=0)
   have W':∀N M,∀s ∈ h7 P aG 0 ops.toList,(s=ops.size\/(s=N/\M=N))\/∃k o,ops[k]? =some o/\er P o=true/\s=posOf aG k:=fun N M s aR=>by
    rcases uB aR with h | ⟨j,o,aa,ad,aJ⟩
    . exact .inl (.inl (by simpa using h))
    . exact .inr ⟨j,o,by simpa using aa,ad,by simpa using aJ⟩
   have SN:∀i o,ops[i]? =some o->∃cV,(eZ [] ops.toList)[i]? =some cV/\mP i o=true/\(posOf aG i<ops.size->
    ∀k ok,ops[k]? =some ok->posOf aG k<ops.size->∃mk,(eZ [] ops.toList)[k]? =some mk/\pw i cV (b7 ops o) o.dst k mk ok (Nat.blt (posOf aG k) (posOf aG i))=true/\(fe P o.op=true->er P ok=true->posOf aG k<posOf aG i->gl cV k=true\/(false=true/\lv o=true/\lv ok=true))):=by
    intro i o an;obtain ⟨cV,g1,g2,g3⟩:=Rw gI i o an;exact ⟨cV,g1,g2,fun _ k ok aH _=>by obtain ⟨mk,e7,fJ,y3⟩:=g3 k ok aH;exact ⟨mk,e7,fJ,fun a b c=>.inl (y3 a b c)⟩⟩
   have main:∀(q:Dp),
    (∀es o' N,es.length=N->N<=ops.size->(∀i o,ops[i]? =some o->posOf aG i<N->∃e,es[posOf aG i]? =some e/\(cK P au ops o).run call e.r e.h=.val e.v (cq es o' (posOf aG i+1)))->
      (N<ops.size->∃i0 iC,ops[i0]? =some iC/\posOf aG i0=N/\er P iC=true)->q.run call es o'=true->∀j o,ops[j]? =some o->looks o.op=true->fe P o.op=false->posOf aG j<N->∃e,es[posOf aG j]? =some e/\∀s ∈ h7 P aG 0 ops.toList,
      s4 P (eZ [] ops.toList) ops.toList aG j (((eZ [] ops.toList)[j]?).getD 0) s=true->∃ab,(cK P au ops o).run call e.r (cq es o' s)=.val e.v ab)->
    n1 az E au (Q .normal) Q (Ey ops order aG (fW P au ops (hW ops order)) q call r h)->(Code.region id ops true).wpIn (cA rd) 0 P Q a w:=by
    intro q ua c2;unfold Ey at c2;cases cR:(fW P au ops (hW ops order)).run call r h with
    | fail=>rw [cR] at c2;exact c2.elim
    | ok es e5 bl=>
      rw [cR] at c2;simp only at c2;cases aC:q.run call es bl with
      | false=>rw [aC] at c2;exact c2.elim
      | true=>
        rw [aC] at c2;simp only [cond_true] at c2;obtain ⟨ar,av,aK,bU⟩:=uZ cR;have hlen:es.length=ops.size:=by rw [ar,qs,kG]
        have ig:∀i o,ops[i]? =some o->posOf aG i<ops.size->∃e,es[posOf aG i]? =some e/\(cK P au ops o).run call e.r e.h=.val e.v (cq es bl (posOf aG i+1))/\ey es e5 (posOf aG i+1)=(ga o.dst).run e.r e.v:=
         fun i o a6 _=>bU _ o (nI (iE i (Array.getElem?_eq_some_iff.1 a6).1).2 a6)
        have C:Cert P au ops (fun _=>call) es r h e5 bl (h7 P aG 0 ops.toList) order aG ops.size ops.size false:=
         ⟨hlen,Nat.le_refl _,Nat.le_refl _,iE,lE,av,aK,ig,SN,anw,M6,W' _ _,
           fun j o aa ad aJ bE=>by obtain ⟨e,g1,g2⟩:=ua es bl _ hlen (Nat.le_refl _) (fun i o a6 an=>by obtain ⟨e,b6,z2,_⟩:=ig i o a6 an;exact ⟨e,b6,z2⟩) (fun h=>by omega) aC j o aa ad aJ bE;exact ⟨e,g1,fun s aR hm=>by obtain ⟨ab,g3⟩:=g2 s aR hm;exact ⟨_,ab,⟨c1,dN⟩,g3⟩⟩,
           fun h=>absurd h (Nat.lt_irrefl _),fun h=>absurd h (Nat.lt_irrefl _)⟩
        exact Jh dE bJ c1 dN k s C (fun _=>c2) (fun _ _ _ _ _ _ _ h=>absurd h (Nat.lt_irrefl _)) (fun h=>absurd h (Nat.lt_irrefl _))
    | cT es e5 bl v ab=>
      rw [cR] at c2;simp only at c2;cases aC:(Mb ops order aG es.length&&q.run call es bl) with
      | false=>rw [aC] at c2;exact c2.elim
      | true=>
        rw [aC] at c2;simp only [cond_true] at c2;simp only [Bool.and_eq_true] at aC;obtain ⟨wE,aC⟩:=aC;obtain ⟨av,aK,bU,iC,dV,eQ,hg⟩:=Xa cR;have aO:es.length<ops.size:=by have:=(List.getElem?_eq_some_iff.1 dV).1;rw [qs,kG] at this;exact this
        obtain ⟨i0,wu,ki⟩:=lE es.length aO;have cF:ops[i0]? =some ops[i0]:=Array.getElem?_eq_getElem wu;have qc:=(iE i0 wu).2;rw [ki] at qc;have afI:iC=ops[i0]:=by have:=nI qc cF;rw [dV] at this;cases this;rfl
        subst afI;unfold Mb at wE;rw [qc] at wE;simp only at wE;obtain ⟨m0,Kx,_⟩:=qF wE i0 ops[i0] (by simp);have TA:∀k ok,ops[k]? =some ok->∃mk,(eZ [] ops.toList)[k]? =some mk/\(es.length<posOf aG k->gl mk i0=true)/\(ha ok=true->posOf aG k<es.length->gl m0 k=true):=by
         intro k ok aH;obtain ⟨mk,b6,z2⟩:=qF wE k ok (by simpa using aH);simp only [Nat.zero_add,Bool.and_eq_true] at z2;refine ⟨mk,b6,fun aB=>?_,fun a1 ay=>?_⟩
         . have:=z2.1;rw [show Nat.blt es.length (posOf aG k)=true from by rw [Nat.blt_eq];exact aB] at this;exact this
         . have:=z2.2;rw [a1,show Nat.blt (posOf aG k) es.length=true from by rw [Nat.blt_eq];exact ay,Kx] at this;exact this
        have yI:er P ops[i0]=true:=by obtain ⟨bP,bY⟩:=UK (P:=P) eQ;unfold er;rw [bP,bY];rfl
        have ig:∀i o,ops[i]? =some o->posOf aG i<es.length->∃e,es[posOf aG i]? =some e/\(cK P au ops o).run call e.r e.h=.val e.v (cq es bl (posOf aG i+1))/\ey es e5 (posOf aG i+1)=(ga o.dst).run e.r e.v:=
         fun i o a6 ay=>bU _ o ay (nI (iE i (Array.getElem?_eq_some_iff.1 a6).1).2 a6)
        have C:Cert P au ops (fun _=>call) es r h e5 bl (h7 P aG 0 ops.toList) order aG es.length ops.size false:=
         ⟨rfl,Nat.le_of_lt aO,Nat.le_of_lt aO,iE,lE,av,aK,ig,SN,by rw [<-ki];exact M6 i0 _ cF yI,M6,W' _ _,
           fun j o aa ad aJ bE=>by obtain ⟨e,g1,g2⟩:=ua es bl _ rfl (Nat.le_of_lt aO) (fun i o a6 an=>by obtain ⟨e,b6,z2,_⟩:=ig i o a6 an;exact ⟨e,b6,z2⟩) (fun _=>⟨i0,_,cF,ki,yI⟩) aC j o aa ad aJ bE;exact ⟨e,g1,fun s aR hm=>by obtain ⟨ab,g3⟩:=g2 s aR hm;exact ⟨_,ab,⟨c1,dN⟩,g3⟩⟩,
           fun h=>absurd h (Nat.lt_irrefl _),fun _ _=>⟨i0,_,m0,cF,ki,eQ,Kx,fun k ok mk aH aB nu=>by
            obtain ⟨mk',b6,z2,_⟩:=TA k ok aH;rw [nu] at b6;cases b6;exact z2 aB,fun k ok aH a1 ay=>by
            obtain ⟨mk',b6,_,z3⟩:=TA k ok aH;exact z3 a1 ay,v,ab,hg⟩⟩
        refine Jh dE bJ c1 dN k s C (fun h=>absurd h (by omega)) (fun ax bu ao x v1 aa g1 _ _ g3 g4 g5 g6=>?_) (fun h=>absurd h (Nat.lt_irrefl _));obtain ⟨i1,c7,b6,z2,z3⟩:=g3;have:i1=i0:=C.xi (Array.getElem?_eq_some_iff.1 b6).1 wu (by rw [z2,ki]);subst this;rw [cF] at b6;cases b6;rw [hg] at z3;cases z3;exact c2 ax bu ao x g1 g4 g5 g6
   cases ay:r9 P ops.toList with
   | false=>
     rw [ay] at ag;have none:∀(l:List Oper),r9 P l=false->∀(j:Nat) (o:Oper),l[j]? =some o->fe P o.op=false:=by
      intro l
      induction l with
      | nil=>intro _ j o h;simp at h
      | cons x l br=>
        intro h j o a6;simp only [r9,Bool.or_eq_false_iff] at h;cases j with
        | zero=>simp only [List.getElem?_cons_zero,Option.some.injEq] at a6;subst a6;exact h.1
        | succ j=>exact br h.2 j o (by simpa using a6)
     refine main _ (fun es o' N hlen hle ig Tn _ j o a6 eD aC Bz=>?_) ag;have JR:N=ops.size:=by
      rcases Nat.lt_or_ge N ops.size with aO | jt
      . obtain ⟨i0,iC,b6,z2,z3⟩:=Tn aO;have:=none _ ay i0 iC (by simpa using b6);unfold er at z3;rw [this] at z3;cases z3
      . omega
     obtain ⟨e,bZ,bX⟩:=ig j o a6 Bz;refine ⟨e,bZ,fun s aR _=>?_⟩;have hH:s=ops.size:=by
      rcases uB aR with h | ⟨Cc,ck,aa,ad,aJ⟩
      . simpa using h
      . have:=none _ ay Cc ck aa;unfold er at ad;rw [this] at ad;cases ad
     have flat:∀d,d<=ops.size->cq es o' d=cq es o' 0:=by
      intro d
      induction d with
      | zero=>intro _;rfl
      | succ d br=>
        intro bc;obtain ⟨i,Bx,oi⟩:=lE d (by omega);have cF:ops[i]? =some ops[i]:=Array.getElem?_eq_getElem Bx;obtain ⟨acT,b2,b0⟩:=ig i ops[i] cF (by omega);rw [oi] at b2 b0;have cl:fe P ops[i].op=false:=none _ ay i _ (by simp);rw [(vL cl b0).1,<-br (by omega)];simp [cq,b2]
     have:e.h=cq es o' s:=by rw [hH,flat ops.size (Nat.le_refl _),<-flat (posOf aG j) (by omega)];simp [cq,bZ]
     rw [<-this];exact ⟨_,bX⟩
   | true=>
     rw [ay] at ag;refine main _ (fun es o' N hlen hle ig Tn KP j o a6 eD aC Bz=>?_) ag;obtain ⟨e,bZ,_⟩:=ig j o a6 Bz;have:=Il KP j o (by simpa using a6) eD aC e (by simpa using bZ);exact ⟨e,bZ,by simpa using this⟩
end
def toExit:dm->Exit
 | .normal=>.normal
 | .exit id=>.exit id
 | .ret=>.ret
def Y1 (C:Ctx):Prop:=
 ∀f p args h v ab,C.Mm f=some p->p.run args h=.val v ab->(∃fn,C.P.funcs[f]? =some fn/\fn.body.isSome=true)/\∀(az:Fr) E w xs,bk E args xs->bf az E h w->
  Calls C.P f xs.toArray w fun e ao=>∃ax x,e=.returned x/\E.le ax/\Rel ax v x/\bf az ax ab ao
def Yi (C:Ctx):Prop:=
 ∀f p args h v ab,C.ext f=some p->p.run args h=.val v ab->∀(az:Fr) E w xs,bk E args xs->bf az E h w->
  ∃ax x ao,(callFunc f xs.toArray).run C.P w=.ok (.value x) ao/\E.le ax/\Rel ax v x/\bf az ax ab ao
def r5 (C:Ctx):Prop:=Y1 C/\Yi C
theorem qZ {P:Program} {rd:Option Nat} (m:Machine):m.fenced P (cA rd):=fenced_wide P m
def Hg (rd:Option Nat) (P:Program) (c:Code) (Q:Exit->Act->World->Prop) (a:Act) (w:World):Prop:=
 match c with
 | .loop x=>∀(b:Frame) (k:List Item) (cs:List Frame),b.roundOf=rd->∃e bu ao,Q e bu ao/\ArrivesIn (Machine.fenced P (cA rd)) P (lone (b.atR a (.code x::.inLoop x::k)) cs w) b k cs e bu ao
 | c=>c.wpIn (cA rd) 0 P Q a w
theorem Hg.wp {rd:Option Nat} {P:Program} {c:Code} {Q:Exit->Act->World->Prop} {a:Act} {w:World} (h:Hg rd P c Q a w):c.wpIn (cA rd) 0 P Q a w:=by
 cases c with
 | loop x=>
   intro b k cs l1 _ _;obtain ⟨e,bu,ao,q,r⟩:=h b k cs l1;exact ⟨e,bu,ao,q,.of_steps (.one (qZ _) stepR_loop) r⟩
 | _=>exact h
def x0 (az:Fr) (E:Env) (au:Nat) (Q:Exit->Act->World->Prop):ml->Prop
 | .ok e r h=>∀ax bu ao,E.le ax->fL ax au r bu->bf az ax h ao->Q (toExit e) bu ao
 | .cT v r h=>∀ax bu ao x,E.le ax->fL ax au r bu->Rel ax v x->bf az ax h ao->Q (.panic (qu x)) bu ao
 | .fail=>False
theorem x0.up {az:Fr} {E ax:Env} (h:E.le ax) {au:Nat} {Q:Exit->Act->World->Prop} {x:ml} (k:x0 az E au Q x):x0 az ax au Q x:=by
 cases x with
 | ok e r bl=>exact fun cp a w ad=>k cp a w (h.trans ad)
 | cT v r bl=>exact fun cp a w x ad=>k cp a w x (h.trans ad)
 | fail=>exact k
def N0 (P:Program) (au:Nat) (c:Code) (run:bI->ai->ml):Prop:=
 ∀(rd:Option Nat) (az:Fr) r h,(rd=none\/noMark c=true)->∀E a w,fL E au r a->bf az E h w->∀Q:Exit->Act->World->Prop,x0 az E au Q (run r h)->Hg rd P c Q a w
def tr (P:Program) (ex:iq):Prop:=∀au c,N0 P au c (ex au c)
def xp (tmps:Array Value):ResultVar->Sem Value
 | .tmp t=>pure (tmps.getD t undef)
 | .cell b t=>do loadVar t (<-asAddr (tmps.getD b undef))
theorem MG {P:Program} {az:Fr} {E:Env} {au:Nat} {r:bI} {h:ai} {a:Act} {w:World} (k:RegRel0 E au r a) (s:bf az E h w):∀{l:List ResultVar} {ah:List V},(k' P au l).run r h=some ah->
 ∃xs,bk E ah xs/\(l.mapM (xp a.tmps)).run P w=.ok xs w
 | [],ah,he=>by simp only [k',Option.some.injEq] at he;subst he;exact ⟨[],rfl,rfl⟩
 | .tmp t::l,ah,he=>by
   simp only [k'] at he;cases aD:(Nat.ble t top&&Nat.blt t au) with
   | false=>rw [aD] at he;cases he
   | true=>
     rw [aD] at he;simp only [cond_true] at he;simp only [Bool.and_eq_true,Nat.ble_eq] at aD;cases aF:(k' P au l).run r h with
     | none=>rw [aF] at he;cases he
     | some us=>
       rw [aF] at he;simp only [Option.some.injEq] at he;subst he;obtain ⟨xs,aa,ad⟩:=MG k s aF;refine ⟨_::xs,by simp only [bk];exact ⟨_,_,rfl,k.aq t aD.1,aa⟩,?_⟩;rw [List.mapM_cons,Sem.run_bind];simp only [xp,Sem.run_pure,Result.andThen_ok,Sem.run_bind,ad]
 | .cell b t::l,ah,he=>by
   simp only [k'] at he;cases aD:(Nat.ble b top&&Nat.blt b au) with
   | false=>rw [aD] at he;cases he
   | true=>
     rw [aD] at he;simp only [cond_true] at he;simp only [Bool.and_eq_true,Nat.ble_eq] at aD;cases bh:(qo P t).run h (T.get .bad (aj b) r) with
     | none=>rw [bh] at he;cases he
     | some v=>
       rw [bh] at he;simp only at he;cases aF:(k' P au l).run r h with
       | none=>rw [aF] at he;cases he
       | some us=>
         rw [aF] at he;simp only [Option.some.injEq] at he;subst he;obtain ⟨xs,aa,ad⟩:=MG k s aF;obtain ⟨Y,_,cN,A,nk,fN⟩:=Ux (P:=P) s (k.aq b aD.1) bh;refine ⟨Y::xs,by simp only [bk];exact ⟨_,_,rfl,cN,aa⟩,?_⟩;rw [List.mapM_cons,Sem.run_bind];simp only [xp,nk,asAddr,Sem.run_bind,Sem.run_pure,Result.andThen_ok,fN,ad]
theorem O7:∀(args:List V) (i:Nat) (t:bI) (j:Nat),i+args.length<=top+1->j<=top->
 T.get .bad (aj j) (nc i args t)=if i<=j/\j<i+args.length then (args[j-i]?).getD .bad else T.get .bad (aj j) t
 | [],i,t,j,_,_=>by
   have:¬(i<=j/\j<i):=by omega
   simp [nc,this]
 | v::ah,i,t,j,h,aU=>by
   simp only [List.length_cons] at h ⊢;rw [nc,O7 ah _ _ _ (by omega) aU];by_cases aa:i+1<=j/\j<i+1+ah.length
   . rw [if_pos aa,if_pos (by omega)];have:j-i=(j - (i+1))+1:=by omega
     rw [this,List.getElem?_cons_succ]
   . rw [if_neg aa,T.iy];by_cases ad:j=i
     . subst ad;rw [if_pos rfl,if_pos (by omega)];simp
     . rw [if_neg (fun e=>ad (fu e).symm),if_neg (by omega)]
theorem ala {E:Env} {ah:List V} {xs:List Value} (h:bk E ah xs) (fn:Func) (a:Act) (P:Program) (w:World)
 (aF:(fn.results.toList.mapM (xp a.tmps)).run P w=.ok xs w):∃x,(results fn a.tmps).run P w=.ok x w/\Rel E (oneOf ah) x:=by
 have nt:(fn.results.mapM (xp a.tmps)).run P w=.ok xs.toArray w:=by rw [Array.mapM_eq_mapM_toList,Sem.run_map,aF];rfl
 have J5:results fn a.tmps=(do
  let ah <-fn.results.mapM (xp a.tmps)
  pure (if h:ah.size=1 then ah[0] else .tuple ah)):=by
  unfold results;have:(fun x=>match x with
   | ResultVar.tmp t=>(pure (a.tmps.getD t undef):Sem Value)
   | ResultVar.cell b t=>do loadVar t (<-asAddr (a.tmps.getD b undef)))=xp a.tmps:=by
   funext x;cases x<;>rfl
  rw [<-this];rfl
 have ui:(results fn a.tmps).run P w=.ok (if h:xs.toArray.size=1 then xs.toArray[0] else .tuple xs.toArray) w:=by rw [J5,Sem.run_bind,nt];rfl
 refine ⟨_,ui,?_⟩
 match ah,h with
 | [],h=>
   simp only [bk] at h;subst h;simp only [oneOf,Rel];exact ⟨#[],rfl,rfl⟩
 | [v],h=>
   simp only [bk] at h;obtain ⟨y,cY,rfl,aZ,rfl⟩:=h;simpa [oneOf] using aZ
 | v::u::ah,h=>
   have ay:=h.length;have cl:¬xs.toArray.size=1:=by simp at ay ⊢;omega
   rw [dif_neg cl];simp only [oneOf,Rel];exact ⟨_,rfl,by simpa using h⟩
section
variable {C:Ctx}
theorem O6:∀(args:List V) (i:Nat) (t:bI),i+args.length<=top+1->T.get .bad e_ (nc i args t)=T.get .bad e_ t
 | [],_,_,_=>rfl
 | v::ah,i,t,h=>by simp only [List.length_cons] at h;simp only [nc];rw [O6 ah (i+1) _ (by omega),T.iy,if_neg (xf (by omega))]
theorem RH {E:Env} {au:Nat} {args:List V} {xs:List Value} (ay:bk E args xs) (lS:args.length<=au) (hF:au<=top):
 fL E au (nc 0 args .e) {tmps:=xs.toArray++Array.replicate (au-xs.toArray.size) undef,defers:=[]}:=by
 have hlen:=ay.length;refine ⟨⟨by simp;omega,fun t aw=>?_⟩,?_⟩
 . rw [O7 _ _ _ _ (by omega) aw];by_cases aO:t<args.length
   . rw [if_pos (by omega),Nat.sub_zero,List.getElem?_eq_getElem aO];obtain ⟨y,aZ,cN⟩:=ay.get t args[t] (List.getElem?_eq_getElem aO);simp only [Option.getD_some];have:(xs.toArray++Array.replicate (au-xs.toArray.size) undef).getD t undef=y:=by
      rw [Array.getD_eq_getD_getElem?,Array.getElem?_append_left (by simp;omega)];simp [aZ]
     rw [this];exact cN
   . rw [if_neg (by omega)];simp [Rel]
 . rw [O6 _ _ _ (by omega)];simp [lK]
def lh (E:Env) (u:Option V) (m:FrameMode):Prop:=
 match u with
 | none=>m=.returning
 | some v=>∃x,Rel E v x/\m=.panicking (qu x)
theorem lh.mono {E ax:Env} (h:E.le ax) {u:Option V} {m:FrameMode} (k:lh E u m):lh ax u m:=by
 cases u with
 | none=>exact k
 | some v=>obtain ⟨x,aa,ad⟩:=k;exact ⟨x,Rel.mono h _ _ aa,ad⟩
theorem lh.settle {E:Env} {u:Option V} {m:FrameMode} (k:lh E u m):settle m=m:=by
 cases u with
 | none=>simp only [lh] at k;subst k;rfl
 | some v=>obtain ⟨x,aa,rfl⟩:=k;rfl
theorem lh.run {E:Env} {u:Option V} {m:FrameMode} (k:lh E u m):m≠.run:=by
 cases u with
 | none=>simp only [lh] at k;subst k;simp
 | some v=>obtain ⟨x,aa,rfl⟩:=k;simp
def Dt (P:Program) (kS:vc):Prop:=
 ∀f args u h gW ab,kS f args u h=.go gW ab->(∃fn,P.funcs[f]? =some fn/\fn.body.isSome=true)/\
  ∀(az:Fr) E w xs m,bk E args xs->lh E u m->bf az E h w->CallsDIn (cA none) 0 P f xs.toArray m w fun e du ao=>∃ax x,e=.returned x/\E.le ax/\lh ax gW (settle du)/\bf az ax ab ao
theorem bf.gone {az:Fr} {E:Env} {h:ai} {w ao:World} (s:bf az E h w) {b:aQ} {p:jN} (h5:(h.get b).own=true) (ag:E b=some p) (c_:az.w.heap.size<=p.aM)
 (aO:w.heap.size<=ao.heap.size) (nx:∀j,j≠p.aM->ao.heap[j]? =w.heap[j]?) (pc:ao.os=w.os) (aw:ao.tape=w.tape) (a6:ao.output=w.output):bf az E (h.set b .dead) ao:=
 s.set h5 ag c_ aO nx pc aw a6 (fun _ _ _ e=>by cases e) trivial
theorem Ly {P:Program} {kS:vc} (bJ:eT P) (lU:Dt P kS) {az:Fr} {fn:Func} {tmps:Array Value} {R:Ending->World->Prop}:∀(ah:List V) (ds:List Deferred) (E:Env) (u:Option V) (h:ai) (w:World) (m:FrameMode) (gW:Option V) (ab:ai),
 nC kS ah u h=.go gW ab->nT E ah ds->lh E u m->bf az E h w->(∀ax du ao,E.le ax->lh ax gW du->bf az ax ab ao->LeavesInM (cA none) 0 P fn tmps R [] du ao)->LeavesInM (cA none) 0 P fn tmps R ds m w
 | [],ds,E,u,h,w,m,gW,ab,he,bc,hu,s,cN=>by simp only [nC,tx.go.injEq] at he;obtain ⟨rfl,rfl⟩:=he;simp only [nT] at bc;subst bc;exact cN E m w (Env.le.refl E) hu s
 | v::ah,ds,E,u,h,w,m,gW,ab,he,bc,hu,s,cN=>by
   obtain ⟨d,lP,rfl,Fa,Fb⟩:=bc;cases v with
   | func f args=>
     simp only [nC] at he;cases aD:kS f args u h with
     | fail=>rw [aD] at he;cases he
     | go u3 aa=>
       rw [aD] at he;simp only at he;obtain ⟨aA,cap,aw,ay⟩:=Fa;obtain ⟨⟨adx,kD,ae⟩,c1⟩:=lU _ _ _ _ _ _ aD;refine ⟨hu.run,.inr ⟨fun h=>by simp at h,_,cap,f,d.args++cap,aw,?_,fun _ _=>trivial,?_⟩⟩
       . rw [aw];simp only [invoke];exact uV bJ kD ae _ w
       . have e:d.args++cap=(d.args.toList++cap.toList).toArray:=by apply Array.ext';simp
         rw [e];refine CallsDIn.mono (c1 az E w _ m ay hu s) fun e m1 b2 aC=>?_;obtain ⟨ez,x,rfl,ar,av,aK⟩:=aC;exact Ly bJ lU ah lP ez u3 aa b2 (settle m1) gW ab he (Fb.mono ar) av aK fun cp m2 b0 bZ bX b_=>cN cp m2 b0 (ar.trans bZ) bX b_
   | ptr b off=>
     simp only [nC] at he;cases aB:h.get b<;>rw [aB] at he<;>simp only at he<;>try (cases he;done)
     obtain ⟨p,ag,aeT⟩:=Fa;have ae:=s.at ag;rw [aB] at ae;obtain ⟨p',gL,c_,bl⟩:=ae;rw [ag] at gL;cases gL;have lY:=(Array.getElem?_eq_some_iff.1 bl).1
     let b2:World:={w with heap:=w.heap.setIfInBounds p.aM (.deferred none)}
     have agb:(Instr.takeDeferred p.aM).run P w=.ok [] b2:=by
      have fj:(getObj p.aM).run P w=.ok (.deferred (some [])) w:=by simp only [getObj,Sem.run,bl]
      have sL:(setObj p.aM (.deferred none)).run P w=.ok () b2:=by simp only [setObj,Sem.run,bl];rfl
      simp only [Instr.takeDeferred,Sem.run_bind,fj,Result.andThen_ok,sL,Sem.run_pure]
     have s1:bf az E (h.set b .dead) b2:=s.gone (by rw [aB];rfl) ag c_ (by simp [b2]) (fun j aU=>by simp only [b2,Array.getElem?_setIfInBounds];rw [if_neg (fun e=>aU e.symm)]) rfl rfl rfl;refine ⟨hu.run,.inl ⟨p.aM,b2,by rw [aeT],agb,?_⟩⟩;exact Ly bJ lU ah lP E u _ b2 m gW ab he Fb hu s1 cN
   | _=>simp [nC] at he
theorem ML {P:Program} {az:Fr} {E:Env} {fn:Func} {r:bI} {h:ai} {a:Act} {w:World} (k:RegRel0 E fn.ntmps r a) (s:bf az E h w) {ah:List V} (bh:(k' P fn.ntmps fn.results.toList).run r h=some ah):
 ∃x,(results fn a.tmps).run P w=.ok x w/\Rel E (oneOf ah) x:=by
 obtain ⟨cY,bZ,bX⟩:=MG (P:=P) k s bh;exact ala bZ fn a P w bX
section
variable {C:Ctx}
theorem abF (ex:iq):hx C.P (sg C ex):=by intro f args h v ab he;trivial
def r4 (az:Fr) (E:Env) (R:Ending->World->Prop):a8->Prop
 | .val v ab=>∀ax x ao,E.le ax->Rel ax v x->bf az ax ab ao->R (.returned x) ao
 | .cT v ab=>∀ax x ao,E.le ax->Rel ax v x->bf az ax ab ao->R (.panicked (qu x)) ao
 | .fail=>False
theorem r4.up {az:Fr} {E ax:Env} (h:E.le ax) {R:Ending->World->Prop} {x:a8} (k:r4 az E R x):r4 az ax R x:=by
 cases x with
 | val v bl=>exact fun cp a w ad=>k cp a w (h.trans ad)
 | cT v bl=>exact fun cp a w ad=>k cp a w (h.trans ad)
 | fail=>exact k
theorem Jx (bJ:eT C.P) {kS:vc} (lU:Dt C.P kS) {az:Fr} {fn:Func} {E:Env} {r:bI} {u:Option V} {h:ai} {a:Act} {w:World} {m:FrameMode} {R:Ending->World->Prop}
 (k:fL E fn.ntmps r a) (hu:lh E u m) (s:bf az E h w)
 (ag:r4 az E R (finish (k' C.P fn.ntmps fn.results.toList) r (nC kS (T.get .bad e_ r).list u h))):LeavesInM (cA none) 0 C.P fn a.tmps R a.defers m w:=by
 cases ay:nC kS (T.get .bad e_ r).list u h with
 | fail=>rw [ay] at ag;exact ag.elim
 | go gW ab=>
   rw [ay] at ag;refine Ly bJ lU _ a.defers E u h w m gW ab ay k.defers.list hu s fun ax du ao ar av aK=>?_;cases gW with
   | some v=>
     obtain ⟨x,ak,rfl⟩:=av;exact ag ax x ao ar ak aK
   | none=>
     simp only [lh] at av;subst av;simp only [finish] at ag;cases bh:(k' C.P fn.ntmps fn.results.toList).run r ab with
     | none=>rw [bh] at ag;exact ag.elim
     | some ah=>
       rw [bh] at ag;obtain ⟨x,bZ,bX⟩:=ML (P:=C.P) (k.mono ar).toRegRel0 aK bh;exact ⟨x,bZ,ag ax x ao ar bX aK⟩
theorem Rm {res:x2} {u gW:Option V} {x:ml} {ab:ai} (he:Ex res u x=.go gW ab):∃e r ah,x=.ok e r ab/\(e=.normal\/e=.ret)/\T.get .bad e_ r=.bad/\res.run r ab=some ah/\gW=u:=by
 unfold Ex at he;cases x with
 | fail=>cases he
 | cT _ _ _=>cases he
 | ok e r h=>
   have main:(bif (T.get .bad e_ r).Li then (match res.run r h with
    | some _=>tx.go u h
    | none=>.fail) else .fail)=.go gW ab->(e=.normal\/e=.ret)->∃cZ bD ah,ml.ok e r h=.ok cZ bD ab/\(cZ=.normal\/cZ=.ret)/\T.get .bad e_ bD=.bad/\res.run bD ab=some ah/\gW=u:=by
    intro he ie;cases ae:(T.get .bad e_ r).Li with
    | false=>rw [ae] at he;cases he
    | true=>
      rw [ae] at he;simp only [cond_true] at he;have Bp:T.get .bad e_ r=.bad:=by
       cases aB:T.get .bad e_ r<;>rw [aB] at ae<;>first
        | rfl
        | cases ae
      cases bh:res.run r h with
      | none=>rw [bh] at he;cases he
      | some ah=>
        rw [bh] at he;simp only [tx.go.injEq] at he;obtain ⟨rfl,rfl⟩:=he;exact ⟨e,r,ah,rfl,ie,Bp,bh,rfl⟩
   cases e with
   | normal=>exact main he (.inl rfl)
   | ret=>exact main he (.inr rfl)
   | exit id=>cases he
theorem amt {c:Code} {s:H4} (h:GP c=some s):∃id c7 dq args types,c=.seq (.region id #[c7,dq] false) s.rest/\c7.dst=some s.d/\c7.op=.call ⟨.builtin .recover,args,types⟩/\c7.guard=none/\dq.dst=some s.e/\dq.op=.assign s.x/\dq.guard=none:=by
 unfold GP at h
 split at h
 case h_2=>cases h
 rename_i id ops rest
 split at h
 case h_2=>cases h
 rename_i c7 dq ay
 split at h
 case h_2=>cases h
 rename_i d args types e x aa ad aJ bE dn dH;cases h;have afM:ops=#[c7,dq]:=by apply Array.ext';simp [ay]
 subst afM;exact ⟨id,c7,dq,_,_,rfl,aa,ad,aJ,bE,dn,dH⟩
theorem acD (dE:C.P.follows .mixedOrders=true) (bJ:eT C.P) {ex:iq} (hex:tr C.P ex):Dt C.P (Ew C.P ex):=by
 intro f args u h gW ab he;unfold Ew at he;cases aA:C.P.funcs[f]? with
 | none=>rw [aA] at he;cases he
 | some fn=>
   rw [aA] at he;simp only at he;cases ae:fn.body with
   | none=>rw [ae] at he;cases he
   | some c=>
     rw [ae] at he;simp only at he;refine ⟨⟨fn,rfl,by rw [ae];rfl⟩,fun az E w xs m ay hu s=>?_⟩;cases hF:Nat.ble fn.ntmps top with
     | false=>rw [hF] at he;cases he
     | true=>
       rw [hF] at he;simp only [cond_true] at he;rw [Nat.ble_eq] at hF;unfold Rn at he;cases lS:Nat.ble args.length fn.ntmps with
       | false=>rw [lS] at he;cases he
       | true=>
         rw [lS] at he;simp only [cond_true] at he;rw [Nat.ble_eq] at lS;have k:=RH ay lS hF;cases aF:GP c with
         | none=>
           rw [aF] at he;simp only at he;obtain ⟨e,r,ah,ak,ie,yJ,bh,rfl⟩:=Rm he;refine CallsDIn.mono (callsDIn_of_wp (R:=fun e ao=>∃ax x,e=.returned x/\E.le ax/\bf az ax ab ao) aA ae trivial ?_) fun cZ du ao aC=>?_
           . refine (hex fn.ntmps c none az _ h (.inl rfl) E _ w k s _ ?_).wp;rw [ak];intro ax bu ao ar av aK;have bc:bu.defers=[]:=by have:=av.defers;rw [yJ] at this;exact this
             obtain ⟨x,bZ,bX⟩:=ML (P:=C.P) av.toRegRel0 aK bh;rcases ie with rfl | rfl<;>exact ⟨bc,x,bZ,ax,x,rfl,ar,aK⟩
           . obtain ⟨rfl,ax,x,rfl,ar,aK⟩:=aC;exact ⟨ax,x,rfl,ar,by rw [hu.settle];exact hu.mono ar,aK⟩
         | some qA=>
           rw [aF] at he;simp only at he;cases gI:(fa fn.ntmps (some qA.d)&&fa fn.ntmps (some qA.e)) with
           | false=>rw [gI] at he;cases he
           | true=>
             rw [gI] at he;simp only [cond_true] at he;simp only [Bool.and_eq_true] at gI;obtain ⟨e,r,ah,ak,ie,yJ,bh,rfl⟩:=Rm he;obtain ⟨id,c7,dq,CX,rt,rfl,g1,g2,g3,g4,g5,g6⟩:=amt aF;refine callsDIn_of_wpSIn aA ae trivial fun vJ cs J4=>wpSIn_seq (wpSIn_region ?_);obtain ⟨X,b5,yf,ho,du,ns,af6⟩:∃X,Rel E (u.getD .nilIface) X/\∃yf,(match recoverD (vJ::cs) with
              | some (v,acp)=>v=X/\acp=yf
              | none=>X=.nilIface/\yf=vJ::cs)/\∃du,yf={vJ with mode:=du}::cs/\settle du=.returning:=by
              cases u with
              | none=>
                simp only [lh] at hu;subst hu;refine ⟨.nilIface,rfl,vJ::cs,?_,.returning,?_,rfl⟩
                . simp only [recoverD,J4];exact ⟨trivial,trivial⟩
                . rw [<-J4]
              | some v=>
                obtain ⟨x,ak,rfl⟩:=hu;refine ⟨x,ak,{vJ with mode:=.panicking [{v:=x,recovered:=true}]}::cs,?_,.panicking [{v:=x,recovered:=true}],rfl,rfl⟩;simp only [recoverD,J4];exact ⟨trivial,trivial⟩
             have bA:=k.put gI.1 b5;have bx:=bA.put gI.2 (dM bA.toRegRel0 qA.x);rw [<-g1] at bx;rw [<-g4] at bx;have FB:=(hex fn.ntmps qA.rest none az _ h (.inl rfl) E _ w bx s (fun cZ bu ao=>bodyPostS C.P fn vJ cs (fun e du ao=>∃ax x,e=.returned x/\E.le ax/\lh ax none (settle du)/\bf az ax ab ao) cZ bu yf ao) (by
              have:Wf qA u (nc 0 args .e)=(ga dq.dst).run ((ga c7.dst).run (nc 0 args .e) (u.getD .nilIface)) ((bT qA.x).run ((ga c7.dst).run (nc 0 args .e) (u.getD .nilIface))):=by rw [g1,g4];rfl
              rw [<-this,ak];intro ax bu ao ar av aK;have bc:bu.defers=[]:=by have:=av.defers;rw [yJ] at this;exact this
              obtain ⟨x,bZ,bX⟩:=ML (P:=C.P) av.toRegRel0 aK bh;rcases ie with rfl | rfl<;>exact ⟨bc,du,ns,x,bZ,ax,x,rfl,ar,af6,aK⟩)).wp
             have Tw:=wpSIn_of_wpIn (F:=cA none) rfl FB;have sO:∀y,Region.wanted c7 y=true:=fun y=>by simp [Region.wanted,g3]
             have sP:∀y,Region.wanted dq y=true:=fun y=>by simp [Region.wanted,g6]
             have af3:∀(ρ:Operand->Value),(execOp ρ c7).run C.P w=.ok .recover w:=fun ρ=>by obtain ⟨dst,op,type,pos,after,guard⟩:=c7;simp only at g2;subst g2;rfl
             have BS:∀(ρ:Operand->Value),(execOp ρ dq).run C.P w=.ok (.value (ρ qA.x)) w:=fun ρ=>by obtain ⟨dst,op,type,pos,after,guard⟩:=dq;simp only at g5;subst g5;rfl
             have cr:(#[c7,dq]:Array Oper).size=2:=rfl;rw [cr];simp only [List.range_succ,List.range_zero,List.nil_append,List.cons_append,wpOpsSIn];have c0:(#[c7,dq]:Array Oper)[0]? =some c7:=rfl;have aP:(#[c7,dq]:Array Oper)[1]? =some dq:=rfl;rw [c0];simp only [sO,if_true,af3];refine ⟨fun _ _=>trivial,?_⟩;cases Tf:recoverD (vJ::cs) with
             | none=>
               rw [Tf] at ho;obtain ⟨aew,o7⟩:=ho;subst aew o7;simp only [aP,sP,if_true,BS];exact ⟨fun _ _=>trivial,Tw⟩
             | some Nx=>
               obtain ⟨v,apF⟩:=Nx;rw [Tf] at ho;obtain ⟨rfl,rfl⟩:=ho;simp only [aP,sP,if_true,BS];exact ⟨fun _ _=>trivial,Tw⟩
end
end
theorem W8:∀(xs:List V) (x:V),G4 (xs++[x])=some (xs,x)
 | [],x=>rfl
 | [y],x=>rfl
 | y::z::xs,x=>by have:=W8 (z::xs) x;simp only [List.cons_append] at this ⊢;simp only [G4,this]
theorem RegRel0.putAt {E:Env} {au:Nat} {r:bI} {t:Array Value} {ds:List Deferred} (k:RegRel0 E au r ⟨t,ds⟩) {d:Nat} (bc:d<au) (aw:d<=top) {v:V} {x:Value} (bh:Rel E v x):
 RegRel0 E au (T.put .bad v (aj d) r) ⟨t.setIfInBounds d x,ds⟩:=by
 refine ⟨by simp only [Array.size_setIfInBounds];exact k.size,fun j aU=>?_⟩;rw [T.iy];have cr:=k.size;simp only at cr;by_cases h:d=j
 . subst h;rw [if_pos rfl];simp [Array.getD_eq_getD_getElem?,cr,bc,bh]
 . rw [if_neg (fun e=>h (fu e))];have:=k.aq j aU;simpa [Array.getD_eq_getD_getElem?,Array.getElem?_setIfInBounds,h] using this
theorem V0 {E:Env} {au:Nat} {ds:List Deferred}:∀(bm:List Nat) (ah:List V) (xs:List Value) (r:bI) (t:Array Value),px au bm=true->bk E ah xs->RegRel0 E au r ⟨t,ds⟩->
 RegRel0 E au (s8 bm ah r) ⟨(bm.zip xs).foldl (fun t (p:Nat × Value)=>t.setIfInBounds p.1 p.2) t,ds⟩
 | [],ah,xs,r,t,_,_,k=>by cases ah<;>exact k
 | p::bm,[],xs,r,t,_,ay,k=>by simp only [bk] at ay;subst ay;exact k
 | p::bm,v::ah,xs,r,t,ag,ay,k=>by obtain ⟨y,cY,rfl,aZ,ay⟩:=ay;simp only [px,List.all_cons,Bool.and_eq_true,Nat.blt_eq,Nat.ble_eq] at ag;simp only [s8,List.zip_cons_cons,List.foldl_cons];exact V0 bm ah cY _ _ ag.2 ay (k.putAt ag.1.1 ag.1.2 aZ)
theorem V1 {E:Env} {au:Nat} {ds:List Deferred} {bm:Array Nat} {ah:List V} {xs:List Value} {r:bI} {t:Array Value} (ag:px au bm.toList=true) (ay:bk E ah xs) (k:RegRel0 E au r ⟨t,ds⟩):
 RegRel0 E au (s8 bm.toList ah r) ⟨(bm.zip xs.toArray).foldl (fun t (p:Nat × Value)=>t.setIfInBounds p.1 p.2) t,ds⟩:=by
 rw [<-Array.foldl_toList,Array.toList_zip];exact V0 bm.toList ah xs r t ag ay k
theorem RegRel0.ZX {E:Env} {au:Nat} {r:bI} {a:Act} (k:RegRel0 E au r a) (v:V):RegRel0 E au (T.put .bad v e_ r) a:=
 ⟨k.size,fun t aw=>by rw [T.iy,if_neg (fun e=>xf aw e.symm)];exact k.aq t aw⟩
section
variable {C:Ctx}
theorem ady (bJ:eT C.P) (dE:C.P.follows .mixedOrders=true) {ex:iq} (hex:tr C.P ex) {f:FuncId} {args:List V} {h:ai} {az:Fr} {E:Env} {w:World} {xs:List Value} (ay:bk E args xs) (s:bf az E h w) {R:Ending->World->Prop}
 (ag:r4 az E R ((Jz C.P f).run ex args h)):(∃fn,C.P.funcs[f]? =some fn/\fn.body.isSome=true)/\Calls C.P f xs.toArray w R:=by
 unfold Jz at ag;cases aA:C.P.funcs[f]? with
 | none=>rw [aA] at ag;exact ag.elim
 | some fn=>
   rw [aA] at ag;simp only at ag;cases ae:fn.body with
   | none=>rw [ae] at ag;exact ag.elim
   | some c=>
     rw [ae] at ag;simp only at ag;refine ⟨⟨fn,rfl,by rw [ae];rfl⟩,?_⟩;cases hF:Nat.ble fn.ntmps top with
     | false=>rw [hF] at ag;exact ag.elim
     | true=>
       rw [hF] at ag;simp only [cond_true] at ag;rw [Nat.ble_eq] at hF;unfold R' at ag;cases lS:Nat.ble args.length fn.ntmps with
       | false=>rw [lS] at ag;exact ag.elim
       | true=>
         rw [lS] at ag;simp only [cond_true] at ag;rw [Nat.ble_eq] at lS;have k:=RH ay lS hF;have lU:=acD (C:=C) dE bJ hex;refine tJ.1 (callsIn_of_wp_marks (F:=cA none) (n:=0) aA ae trivial ?_);refine (hex fn.ntmps c none az _ h (.inl rfl) E _ w k s _ ?_).wp;cases aF:ex fn.ntmps c (nc 0 args .e) h with
         | fail=>rw [aF] at ag;exact ag
         | cT v r aa=>
           rw [aF] at ag;intro ax bu ao x ar av aK bU;exact Jx (u:=some v) bJ lU av ⟨x,aK,rfl⟩ bU (r4.up ar ag)
         | ok e r aa=>
           rw [aF] at ag;intro ax bu ao ar av aK;have main:r4 az E R (finish (k' C.P fn.ntmps fn.results.toList) r (nC (Ew C.P ex) (T.get .bad e_ r).list none aa))->LeavesInM (cA none) 0 C.P fn bu.tmps R bu.defers .returning ao:=by intro ag;exact Jx (u:=none) bJ lU av rfl aK (r4.up ar ag)
           cases e with
           | normal=>exact main ag
           | ret=>exact main ag
           | exit id=>exact ag.elim
theorem EP (bJ:eT C.P) (dE:C.P.follows .mixedOrders=true) (iN:r5 C) {ex:iq} (hex:tr C.P ex) {f:FuncId} {args:List V} {h:ai} {az:Fr} {E:Env} {w:World} {xs:List Value} (ay:bk E args xs) (s:bf az E h w) {R:Ending->World->Prop}
 (ag:r4 az E R ((yw C f).run ex args h)):(∃fn,C.P.funcs[f]? =some fn/\fn.body.isSome=true)/\Calls C.P f xs.toArray w R:=by
 unfold yw at ag;cases aC:C.Mm f with
 | none=>rw [aC] at ag;exact ady bJ dE hex ay s ag
 | some p=>
   rw [aC] at ag;simp only at ag;cases aF:p.run args h with
   | fail=>rw [aF] at ag;exact ag.elim
   | cT _ _=>rw [aF] at ag;exact ag.elim
   | val v ab=>
     rw [aF] at ag;obtain ⟨aa,ad⟩:=iN.1 f p args h v ab aC aF;refine ⟨aa,(ad az E w xs ay s).mono fun e ao aC=>?_⟩;obtain ⟨ax,x,rfl,ar,av,aK⟩:=aC;exact ag ax x ao ar av aK
theorem bf.loop {P:Program} {az:Fr} {E:Env} {h:ai} {w:World} (s:bf az E h w) {b:aQ} {l dT:lM} {p:jN} {o ck:Loop} (aB:h.get b=.dF l) (ag:E b=some p) (c_:az.w.heap.size<=p.aM) (bl:w.heap[p.aM]? =some (.loop o)) (aF:vl E dT ck):
 (setObj p.aM (.loop ck)).run P w=.ok () {w with heap:=w.heap.setIfInBounds p.aM (.loop ck)}/\bf az E (h.set b (.dF dT)) {w with heap:=w.heap.setIfInBounds p.aM (.loop ck)}:=by
 have lY:=(Array.getElem?_eq_some_iff.1 bl).1;refine ⟨by simp only [setObj,Sem.run,bl],s.set (p:=p) (by rw [aB];rfl) ag c_ (by simp) (fun j aU=>?_) rfl rfl rfl (fun _ _ _ e=>by cases e) ?_⟩
 . simp only [Array.getElem?_setIfInBounds];rw [if_neg (fun e=>aU e.symm)]
 . exact ⟨p,ck,ag,c_,by simp [lY],aF⟩
theorem run_getLoop {P:Program} {r:Nat} {w:World} {o:Loop} (bl:w.heap[r]? =some (.loop o)):(Instr.getLoop r).run P w=.ok o w:=by
 have:(getObj r).run P w=.ok (.loop o) w:=by simp only [getObj,Sem.run,bl]
 simp only [Instr.getLoop,Sem.run_bind,this,Result.andThen_ok,Sem.run_pure]
theorem Ws {az:Fr} {E:Env} {h ab:ai} {w:World} {b:aQ} {p:jN} {e:dm} {v:V} {P:Program} {R:Ending->World->Prop} {a:Act} (s:bf az E h w) (ag:E b=some p) (he:xr b e h=.val v ab)
 (cN:∀x ao,Rel E v x->bf az E ab ao->R (.returned x) ao):roundPost P p.aM R (toExit e) a w:=by
 unfold xr at he;have ae:=s.at ag;cases aB:h.get b<;>rw [aB] at he ae<;>simp only at he<;>try (cases he;done)
 rename_i l;obtain ⟨p',o,gL,c_,bl,aF⟩:=ae;rw [ag] at gL;cases gL;have yO:=run_getLoop (P:=P) bl;obtain ⟨bw,cw,cn,fo,dv,cP,fg,ed⟩:=aF;cases e with
 | normal=>
   simp only [a8.val.injEq] at he;obtain ⟨rfl,rfl⟩:=he;obtain ⟨aa,ad⟩:=s.loop (P:=P) (dT:=⟨0,none,l.d,l.au,l.r,l.bm,l.assign,l.body⟩) (ck:={o with state:=.ready,pending:=none}) aB ag c_ bl ⟨rfl,rfl,cn,fo,dv,cP,fg,ed⟩;refine ⟨.bool true,_,?_,cN _ _ rfl ad⟩;simp only [Instr.endRound,Sem.run_bind,yO,Result.andThen_ok,Option.isNone_none,if_true,aa,Sem.run_pure]
 | ret=>
   simp only [a8.val.injEq] at he;obtain ⟨rfl,rfl⟩:=he;obtain ⟨aa,ad⟩:=s.loop (P:=P) (dT:=⟨2,some .ret,l.d,l.au,l.r,l.bm,l.assign,l.body⟩) (ck:={o with state:=.done,pending:=some .ret}) aB ag c_ bl ⟨rfl,rfl,cn,fo,dv,cP,fg,ed⟩;refine ⟨.bool false,_,?_,cN _ _ rfl ad⟩;simp only [Instr.endRound,Sem.run_bind,yO,Result.andThen_ok,Option.isNone_some,Bool.false_eq_true,if_false,aa,Sem.run_pure]
 | exit id=>
   simp only [a8.val.injEq] at he;obtain ⟨rfl,rfl⟩:=he;obtain ⟨aa,ad⟩:=s.loop (P:=P) (dT:=⟨2,some (.exit id),l.d,l.au,l.r,l.bm,l.assign,l.body⟩) (ck:={o with state:=.done,pending:=some (.exit id)}) aB ag c_ bl ⟨rfl,rfl,cn,fo,dv,cP,fg,ed⟩;refine ⟨.bool false,_,?_,cN _ _ rfl ad⟩;simp only [Instr.endRound,Sem.run_bind,yO,Result.andThen_ok,Option.isNone_some,Bool.false_eq_true,if_false,aa,Sem.run_pure]
theorem amH {P:Program} {ex:iq} (hex:tr P ex) {az:Fr} {E:Env} {h ab:ai} {w:World} {args:List V} {xs:List Value} {b:aQ} {p:jN} {v:V} (he:C0 ex args b h=.val v ab) (ay:bk E args xs) (s:bf az E h w) (ag:E b=some p):
 ∃f tmps assign body,(Instr.yield p.aM xs.toArray).run P w=.ok (.round p.aM f tmps assign body) w/\
  RoundIn (cA none) 0 P p.aM f tmps assign body w fun e ao=>∃ax x,e=.returned x/\E.le ax/\Rel ax v x/\bf az ax ab ao:=by
 unfold C0 at he;have ae:=s.at ag;cases aB:h.get b<;>rw [aB] at he ae<;>simp only at he<;>try (cases he;done)
 rename_i l;obtain ⟨p',o,gL,c_,bl,aF⟩:=ae;rw [ag] at gL;cases gL;obtain ⟨bw,cw,cn,fo,dv,cP,fg,ed⟩:=aF;obtain ⟨aD,he⟩:=jR he;simp only [Bool.and_eq_true,Nat.beq_eq] at aD;obtain ⟨bP,bY,c3,eV⟩:=aD;have hlen:=ay.length;have BL:o.params.size=xs.length:=by rw [<-Array.length_toList,cn,hlen,bP]
 refine ⟨o.fn,(o.params.zip xs.toArray).foldl (fun tmps (t,a)=>tmps.setIfInBounds t a) o.tmps,o.assign,o.body,?_,?_⟩
 . simp only [Instr.yield,Sem.run_bind,run_getLoop bl,Result.andThen_ok];rw [if_neg (by simp [BL])];rfl
 . rw [fo,dv];refine roundIn_of_wpIn (F:=cA none) trivial ?_;have iB:RegRel0 E l.au l.r ⟨o.tmps,[]⟩:=⟨cP,fg⟩;rw [<-cn] at bY he;have bA:=(V1 bY ay iB).ZX .bad;have k:fL E l.au (T.put .bad .bad e_ (s8 o.params.toList args l.r)) ⟨(o.params.zip xs.toArray).foldl (fun t (p:Nat × Value)=>t.setIfInBounds p.1 p.2) o.tmps,[]⟩:=⟨bA,by rw [T.iy,if_pos rfl];simp [lK]⟩;have agA:=hex l.au l.assign (some p.aM) az _ h (.inr c3) E _ w k s (Exit.then (fun sb tm=>∃Df,(Instr.beginRound p.aM).run P tm=.ok () Df/\
    l.body.wpIn (cA (some p.aM)) 0 P (roundPost P p.aM fun e ao=>∃ax x,e=.returned x/\E.le ax/\Rel ax v x/\bf az ax ab ao) sb Df) (fun _ _ _=>False))
   refine (agA ?_).wp;cases ak:ex l.au l.assign (T.put .bad .bad e_ (s8 o.params.toList args l.r)) h with
   | fail=>rw [ak] at he;cases he
   | cT _ _ _=>rw [ak] at he;cases he
   | ok e ami aa=>
     rw [ak] at he;cases e<;>simp only at he<;>try (cases he;done)
     intro ez bW b2 ar av aK;unfold GV at he;have je:=ar _ _ ag;have kB:=aK.at je;cases SO:aa.get b<;>rw [SO] at he kB<;>simp only at he<;>try (cases he;done)
     rename_i d';obtain ⟨bZ,c7,BJ,q4,q9,sJ⟩:=kB;rw [je] at BJ;cases BJ;obtain ⟨cR,he⟩:=jR he;rw [Nat.beq_eq] at cR;obtain ⟨t1,t2,t3,t4,t5,t6,t7,t8⟩:=sJ;obtain ⟨g1,g2⟩:=aK.loop (P:=P) (dT:=⟨1,d'.ew,d'.d,d'.au,d'.r,d'.bm,d'.assign,d'.body⟩) (ck:={c7 with state:=.busy}) SO je q4 q9 ⟨rfl,t2,t3,t4,t5,t6,t7,t8⟩;refine ⟨{b2 with heap:=b2.heap.setIfInBounds p.aM (.loop {c7 with state:=.busy})},?_,?_⟩
     . have BQ:c7.state=.ready:=by rw [t1,cR];rfl
       simp only [Instr.beginRound,Sem.run_bind,run_getLoop q9,Result.andThen_ok,g1,BQ,Sem.run_pure]
     . refine (hex l.au l.body (some p.aM) az _ _ (.inr eV) ez _ _ av g2 _ ?_).wp;cases zd:ex l.au l.body ami (aa.set b (.dF ⟨1,d'.ew,d'.d,d'.au,d'.r,d'.bm,d'.assign,d'.body⟩)) with
       | fail=>rw [zd] at he;cases he
       | cT _ _ _=>rw [zd] at he;cases he
       | ok a' aqX ad=>
         rw [zd] at he;simp only at he;intro cp a2 b0 b6 z2 z3;exact Ws z3 (b6 _ _ je) he fun x ao e7 fJ=>⟨cp,x,rfl,ar.trans b6,e7,fJ⟩
theorem abH (dE:C.P.follows .mixedOrders=true) (bJ:eT C.P) (iN:r5 C) {ex:iq} (hex:tr C.P ex):hi C.P (sg C ex) where
 fn:=by
  intro az f args h v ab aA he E w xs ay s;unfold sg at he;rw [ix,if_neg aA] at he;cases ak:C.ext f with
  | some p=>
    rw [ak] at he;simp only at he;cases aF:p.run args h with
    | fail=>rw [aF] at he;cases he
    | cT _ _=>rw [aF] at he;cases he
    | val v1 aa=>
      rw [aF] at he;simp only [a8.LW,a8.val.injEq] at he;obtain ⟨rfl,rfl⟩:=he;exact .inr (iN.2 f p args h _ _ ak aF az E w xs ay s)
  | none=>
  rw [ak] at he;simp only at he;exact .inl (EP bJ dE iN hex ay s (by rw [he];exact fun ax x ao ar av aK=>⟨ax,x,rfl,ar,av,aK⟩))
 cT:=by
  intro az f args h v ab aA he E w xs ay s;unfold sg at he;rw [ix,if_neg aA] at he;cases ak:C.ext f with
  | some p=>
    rw [ak] at he;simp only at he;cases aF:p.run args h<;>rw [aF] at he<;>cases he
  | none=>
  rw [ak] at he;simp only at he;exact EP bJ dE iN hex ay s (by rw [he];exact fun ax x ao ar av aK=>⟨ax,x,rfl,ar,av,aK⟩)
 X5:=by intro az args b h v ab he E w xs p ay s ag;unfold sg at he;rw [ix,if_pos rfl] at he;unfold MP at he;rw [W8] at he;exact amH hex he ay s ag
 X6:=by
  intro args h v ab he;unfold sg at he;rw [ix,if_pos rfl] at he;have aP:∀b e h,xr b e h≠.cT v ab:=by
   intro b e h he;unfold xr at he
   split at he
   . cases e<;>cases he
   . cases he
  have a':∀au c b r h,GV ex au c b r h≠.cT v ab:=by
   intro au c b r h he;unfold GV at he
   split at he
   case h_2=>cases he
   rename_i l ay;cases aD:Nat.beq l.st 0 with
   | false=>rw [aD] at he;cases he
   | true=>
     rw [aD] at he;simp only [cond_true] at he
     split at he
     . exact aP _ _ _ he
     . cases he
  have cM:∀xs b h,C0 ex xs b h≠.cT v ab:=by
   intro xs b h he;unfold C0 at he
   split at he
   case h_2=>cases he
   rename_i l ay;cases aD:(Nat.beq xs.length l.bm.length&&(px l.au l.bm&&(noMark l.assign&&noMark l.body))) with
   | false=>rw [aD] at he;cases he
   | true=>
     rw [aD] at he;simp only [cond_true] at he
     split at he
     case h_2=>cases he
     rename_i e r aa _;cases e<;>simp only at he<;>try (cases he;done)
     exact a' _ _ _ _ _ he
  unfold MP at he
  split at he
  case h_2=>cases he
  split at he
  case h_2=>cases he
  exact cM _ _ _ he
end
section
variable {C:Ctx}
theorem adf {P:Program} {e:dm} {Q:Exit->Act->World->Prop} {a:Act} {w:World} (h:Q (toExit e) a w):(Jw e).wpIn (cA none) 0 P Q a w:=by
 cases e with
 | normal=>exact wpIn_skip h
 | exit id=>exact wpIn_exit h
 | ret=>exact wpIn_ret h
theorem amq (dE:C.P.follows .mixedOrders=true) (bJ:eT C.P) (iN:r5 C) {ex:iq} (hex:tr C.P ex) {f:Operand} {bm:Array Tmp} {assign body:Code} {au:Nat} {az:Fr} {E:Env} {r:bI} {h:ai} {a:Act} {w:World} {Q:Exit->Act->World->Prop}
 (k:fL E au r a) (s:bf az E h w) (ag:x0 az E au Q (MC (fun g args h=>(yw C g).run ex args h) (bT f) bm.toList au assign body r h)):(Code.rangeFunc f bm assign body).wpIn (cA none) 0 C.P Q a w:=by
 unfold MC at ag;have aA:=dM k.toRegRel0 f;generalize (bT f).run r=xF at ag aA;cases xF<;>simp only at ag<;>try (exact ag.elim)
 rename_i g cs;rw [ix] at ag;by_cases aB:g=dC
 . rw [if_pos aB] at ag;exact ag.elim
 . rw [if_neg aB] at ag;simp only [Rel] at aA;rcases aA with ⟨_,e4,b5,ay⟩ | ⟨Kh,_⟩
   case inr=>exact absurd Kh aB
   refine wpIn_rangeFunc fun fn _=>?_;have f0:=s.fresh h.next (Nat.le_refl _)
   obtain ⟨ez,v'⟩:∃ez,ez=E.put (aj h.next) ⟨w.heap.size,0,0⟩:=⟨_,rfl⟩;obtain ⟨b2,sO⟩:∃b2:World,b2={w with heap:=w.heap.push (.deferred (some []))}:=⟨_,rfl⟩;have BN:ez (aj h.next)=some ⟨w.heap.size,0,0⟩:=by rw [v'];unfold Env.put;rw [if_pos rfl]
   have s1:bf az ez (h.new .gd) b2:=by rw [v',sO];refine s.alloc 0 ⟨⟨w.heap.size,0,0⟩,by unfold Env.put;rw [if_pos rfl],s.frame.size,by simp⟩
   have po:E.le ez:=by rw [v'];exact Env.l' f0
   have wI:b2.heap.size=w.heap.size+1:=by rw [sO];simp
   obtain ⟨o,a6⟩:∃o:Loop,o={state:=.ready,pending:=none,fn,tmps:=a.tmps,params:=bm,assign,body,defers:=w.heap.size}:=⟨_,rfl⟩;obtain ⟨cp,sv⟩:∃cp,cp=ez.put (aj (h.next+1)) ⟨b2.heap.size,0,0⟩:=⟨_,rfl⟩;obtain ⟨b0,sP⟩:∃b0:World,b0={b2 with heap:=b2.heap.push (.loop o)}:=⟨_,rfl⟩;have f1:ez (aj (h.next+1))=none:=s1.fresh (h.next+1) (Nat.le_refl _);have l9:ez.le cp:=by rw [sv];exact Env.l' f1
   have BO:cp (aj (h.next+1))=some ⟨b2.heap.size,0,0⟩:=by rw [sv];unfold Env.put;rw [if_pos rfl]
   have dF:vl cp ⟨0,none,aj h.next,au,r,bm.toList,assign,body⟩ o:=by subst a6;exact ⟨rfl,rfl,rfl,rfl,rfl,k.size,fun t aw=>Rel.mono (po.trans l9) _ _ (k.aq t aw),_,l9 _ _ BN,rfl⟩
   have s2:bf az cp ((h.new .gd).new (.dF ⟨0,none,aj h.next,au,r,bm.toList,assign,body⟩)) b0:=by rw [sv,sP];refine s1.alloc 0 ⟨⟨b2.heap.size,0,0⟩,o,by show ez.put (aj (h.next+1)) _ (aj (h.next+1))=_;unfold Env.put;rw [if_pos rfl],by show az.w.heap.size<=b2.heap.size;rw [wI];have:=s.frame.size;omega,by simp,?_⟩;have:=dF;rw [sv] at this;exact this
   obtain ⟨ij,qa⟩:∃ij,ij=b2.heap.size:=⟨_,rfl⟩;have aZ:Rel cp (.func dC [.ptr (aj (h.next+1)) 0]) (.func (.yield ij) #[] #[]):=by simp only [Rel];exact .inr ⟨trivial,_,_,rfl,BO,by rw [qa]⟩
   have p5:bk cp (.func dC [.ptr (aj (h.next+1)) 0]::cs) (.func (.yield ij) #[] #[]::e4.toList):=by simp only [bk];exact ⟨_,_,rfl,aZ,bk.mono (po.trans l9) _ _ ay⟩
   have c1:=EP (C:=C) bJ dE iN hex (f:=g) p5 s2 (R:=rangePost (cA none) 0 C.P ij Q {a with defers:=[{target:=.collected w.heap.size,args:=#[]}]++a.defers});cases aF:(yw C g).run ex (.func dC [.ptr (aj (h.next+1)) 0]::cs) ((h.new .gd).new (.dF ⟨0,none,aj h.next,au,r,bm.toList,assign,body⟩)) with
   | fail=>rw [aF] at ag;exact ag.elim
   | cT _ _=>rw [aF] at ag;exact ag.elim
   | val v ab=>
     rw [aF] at ag c1;simp only at ag;obtain ⟨⟨adx,kD,ae⟩,aD⟩:=c1 (by
      intro ax x ao ar av aK;simp only [rangePost];unfold V' at ag;have jw:=ar _ _ BO;have ae:=aK.at jw;cases yO:ab.get (aj (h.next+1))<;>rw [yO] at ag ae<;>simp only at ag<;>try (exact ag.elim)
      rename_i l;obtain ⟨p',ck,gL,c_,bl,Ks⟩:=ae;rw [jw] at gL;cases gL;obtain ⟨t1,t2,t3,t4,t5,t6,t7,t8⟩:=Ks;rw [ix] at ag;by_cases cR:l.st=1
      . rw [if_pos cR] at ag;exact ag.elim
      . rw [if_neg cR] at ag;simp only at bl;rw [<-qa] at bl;have KB:(ck.state == LoopState.busy)=false:=by
         rw [t1]
         match p9:l.st with
         | 0=>rfl
         | 1=>exact absurd p9 cR
         | n+2=>rfl
        have lY:=(Array.getElem?_eq_some_iff.1 bl).1
        let iF:World:={ao with heap:=ao.heap.setIfInBounds ij (.loop {ck with state:=.exhausted})}
        have gH:(Instr.endLoop ij).run C.P ao=.ok ck.pending iF:=by
         have sL:(setObj ij (.loop {ck with state:=.exhausted})).run C.P ao=.ok () iF:=by simp only [setObj,Sem.run,bl];rfl
         simp only [Instr.endLoop,Sem.run_bind,run_getLoop bl,Result.andThen_ok,KB,Bool.false_eq_true,if_false,sL,Sem.run_pure]
        have zT:bf az ax (ab.set (aj (h.next+1)) .dead) iF:=by refine aK.gone (p:=⟨b2.heap.size,0,0⟩) (by rw [yO];rfl) jw c_ (by simp [iF]) (fun j aU=>?_) rfl rfl rfl;simp only at aU;simp only [iF,Array.getElem?_setIfInBounds];rw [if_neg (fun e=>aU (by rw [<-e,qa]))]
        have dp:fL ax au (T.put .bad (.tuple (.ptr (aj h.next) 0::(T.get .bad e_ r).list)) e_ r) {a with defers:=[{target:=.collected w.heap.size,args:=#[]}]++a.defers}:=by
         refine ⟨⟨k.size,fun t aw=>?_⟩,?_⟩
         . rw [T.iy,if_neg (fun e=>xf aw e.symm)];exact Rel.mono (po.trans (l9.trans ar)) _ _ (k.aq t aw)
         . rw [T.iy,if_pos rfl];simp only [lK,nT,List.cons_append,List.nil_append];exact ⟨_,_,rfl,⟨_,ar _ _ (l9 _ _ BN),rfl⟩,(k.defers.mono (po.trans (l9.trans ar))).list⟩
        refine ⟨ck.pending,iF,gH,?_⟩;rw [t2];cases j1:l.ew with
        | none=>
          rw [j1] at ag;exact ag ax _ iF (po.trans (l9.trans ar)) dp zT
        | some e=>
          rw [j1] at ag;exact adf (ag ax _ iF (po.trans (l9.trans ar)) dp zT))
     refine ⟨ij,[{target:=.collected w.heap.size,args:=#[]}],b0,{target:=.fn (.func g) e4,args:=#[]++#[.func (.yield ij) #[] #[]]},b0,g,_,b0,?_,?_,fun _ _=>trivial,?_,fun h=>by simp at h,tJ.2 aD⟩
     . subst a6 sP sO;have he:=run_enterLoop_outer (P:=C.P) (w:=w) fn a.tmps bm assign body;rw [World.alloc,World.alloc] at he;simp only [Array.size_push] at qa ⊢;rw [qa];exact he
     . simp only [resolve,b5,Deferred.ofValue,Sem.run_pure];simp [Act.eval]
     . simp only [invoke];have e:(#[]++#[Value.func (.yield ij) #[] #[]]:Array Value)++e4=(Value.func (.yield ij) #[] #[]::e4.toList).toArray:=by apply Array.ext';simp
       rw [e];exact uV bJ kD ae _ b0
theorem zY {P:Program} {b:Frame} {a:Act} {k:List Item} {cs:List Frame} {w:World} {c:Code}:
 step P (lone (b.atR a (.code (.scope c)::k)) cs w)=.next (lone (b.atR a (.code c::.inScope c::k)) cs w):=
 step_lone_go (by simp [stepG,stepG.exec,Frame.atR])
theorem anB {P:Program} {b:Frame} {a:Act} {k:List Item} {cs:List Frame} {w:World} {c:Code}:
 step P (lone (b.atR a (.inScope c::k)) cs w)=.next (lone (b.atR a k) cs w):=
 step_lone_go (by simp [stepG,stepG.exec,Frame.atR])
theorem WE {P:Program} {rd:Option Nat} {c:Code} {Q:Exit->Act->World->Prop} {a:Act} {w:World} (h:c.wpIn (cA rd) 0 P (Exit.noGoto Q) a w):(Code.scope c).wpIn (cA rd) 0 P Q a w:=by
 intro b k cs l1 ae aF;obtain ⟨e,sb,tm,aC,kg⟩:=h b (.inScope c::k) cs l1 ae aF;have ak:∀id,exitTo id (.inScope c::k)=exitTo id k:=fun id=>by simp [exitTo]
 cases e with
 | normal=>exact ⟨.normal,sb,tm,aC,.head (qZ _) zY (StepsIn.trans kg (.one (qZ _) anB))⟩
 | exit id=>exact ⟨.exit id,sb,tm,aC,fun bj aH=>.head (qZ _) zY (kg.1 bj (by rw [ak];exact aH)),fun sI aH=>let ⟨k₁,aa,ad⟩:=kg.2 sI (by rw [ak];exact aH);⟨k₁,aa,.head (qZ _) zY ad⟩⟩
 | goto l=>exact aC.elim
 | ret=>exact ⟨_,sb,tm,aC,.of_steps (.one (qZ _) zY) kg⟩
 | panic apD=>exact ⟨_,sb,tm,aC,.of_steps (.one (qZ _) zY) kg⟩
 | outgrown=>exact ⟨_,sb,tm,aC,.of_steps (.one (qZ _) zY) kg⟩
theorem ab_ (dE:C.P.follows .mixedOrders=true) (bJ:eT C.P) (iN:r5 C) {ex:iq} (hex:tr C.P ex) (au:Nat):∀c:Code,N0 C.P au c ((jQ C au c).run ex):=by
 have c1:=abH dE bJ iN hex;have dN:=abF (C:=C) ex;intro c
 induction c with
 | skip=>
   intro rd az r h aF E a w k s Q ag;exact wpIn_skip (ag E a w (Env.le.refl E) k s)
 | label l=>
   intro rd az r h aF E a w k s Q ag;exact wpIn_label (ag E a w (Env.le.refl E) k s)
 | exit id=>
   intro rd az r h aF E a w k s Q ag;exact wpIn_exit (ag E a w (Env.le.refl E) k s)
 | ret=>
   intro rd az r h aF E a w k s Q ag;exact wpIn_ret (ag E a w (Env.le.refl E) k s)
 | region id ops draw=>
   intro rd az r h aF E a w k s Q ag;have lift:∀x:oW,x0 az E au Q (match x with | .ok bD ab=>.ok .normal bD ab | .cT v bD ab=>.cT v bD ab | .fail=>.fail)->n1 az E au (Q .normal) Q x:=by intro x ak;cases x<;>exact ak
   cases draw with
   | true=>
     simp only [jQ,cond_true,GQ] at ag;exact acM dE bJ c1 dN (lift _ ag) k s
   | false=>
     simp only [jQ,cond_false,GQ] at ag;refine wpIn_region ?_;have:=Vr (rd:=rd) (Q:=Q) bJ c1 dN ops.toList 0 (fun j=>by simp) (aF.imp (fun h=>h) fun h=>by simpa only [noMark,List.all_eq_true] using h) E r h a w (lift _ ag) k s;rw [List.range_eq_range'];simpa using this
 | seq x y wP wQ=>
   intro rd az r h aF E a w k s Q ag;simp only [jQ,WG] at ag;have y1:rd=none\/noMark x=true:=aF.imp (fun h=>h) fun h=>by simp only [noMark,Bool.and_eq_true] at h;exact h.1
   have KX:rd=none\/noMark y=true:=aF.imp (fun h=>h) fun h=>by simp only [noMark,Bool.and_eq_true] at h;exact h.2
   refine wpIn_seq (wP rd az r h y1 E a w k s _ ?_).wp;cases ak:(jQ C au x).run ex r h with
   | fail=>rw [ak] at ag;exact ag
   | cT v bw aa=>rw [ak] at ag;exact ag
   | ok aP bw aa=>
     rw [ak] at ag;simp only at ag;intro ax bu ao ar av aK;cases aP with
     | normal=>exact (wQ rd az bw aa KX ax bu ao av aK Q (ag.up ar)).wp
     | exit id=>exact ag ax bu ao ar av aK
     | ret=>exact ag ax bu ao ar av aK
 | cond c x y wP wQ=>
   intro rd az r h aF E a w k s Q ag;simp only [jQ,Q9] at ag;have y1:rd=none\/noMark x=true:=aF.imp (fun h=>h) fun h=>by simp only [noMark,Bool.and_eq_true] at h;exact h.1
   have KX:rd=none\/noMark y=true:=aF.imp (fun h=>h) fun h=>by simp only [noMark,Bool.and_eq_true] at h;exact h.2
   have aD:=dM k.toRegRel0 c;cases bh:(bT c).run r<;>rw [bh] at ag aD<;>simp only at ag<;>try (exact ag.elim)
   rename_i t;simp only [Rel] at aD;cases t with
   | true=>exact wpIn_cond_true aD (wP rd az r h y1 E a w k s Q ag).wp
   | false=>exact wpIn_cond_false aD (wQ rd az r h KX E a w k s Q ag).wp
 | block id x br=>
   intro rd az r h aF E a w k s Q ag;simp only [jQ,Pt] at ag;refine wpIn_block (br rd az r h (aF.imp (fun h=>h) fun h=>h) E a w k s _ ?_).wp;cases ak:(jQ C au x).run ex r h with
   | fail=>rw [ak] at ag;exact ag
   | cT v bw aa=>rw [ak] at ag;exact ag
   | ok aP bw aa=>
     rw [ak] at ag;simp only at ag;intro ax bu ao ar av aK;cases aP with
     | normal=>exact ag ax bu ao ar av aK
     | ret=>exact ag ax bu ao ar av aK
     | exit i=>
       simp only [ix] at ag;simp only [toExit,Exit.inBlock];by_cases an:i=id
       . rw [if_pos an] at ag ⊢;exact ag ax bu ao ar av aK
       . rw [if_neg an] at ag ⊢;exact ag ax bu ao ar av aK
 | loop x br=>
   intro rd az r h aF E a w k s Q ag;simp only [jQ,Uz] at ag;have y1:rd=none\/noMark x=true:=aF.imp (fun h=>h) fun h=>h;intro b di cs l1;cases ak:(jQ C au x).run ex r h with
   | fail=>rw [ak] at ag;exact ag.elim
   | cT v bw aa=>
     rw [ak] at ag;have body:=(br rd az r h y1 E a w k s (fun cZ bu ao=>∃y,cZ=.panic y/\Q cZ bu ao) (by rw [ak];exact fun ax bu ao x ar av aK bU=>⟨_,rfl,ag ax bu ao x ar av aK bU⟩)).wp b (.inLoop x::di) cs l1 trivial (MO _);obtain ⟨a',a2,b0,⟨y,rfl,q⟩,kg⟩:=body;exact ⟨_,a2,b0,q,.pass (x:=.inLoop x) rfl (fun _ _=>.inl (by simp)) kg⟩
   | ok aP bw aa=>
     rw [ak] at ag;simp only at ag;have body:=(br rd az r h y1 E a w k s
      (fun cZ bu ao=>cZ=toExit aP/\∃ax,E.le ax/\fL ax au bw bu/\bf az ax aa ao) (by rw [ak];exact fun ax bu ao ar av aK=>⟨rfl,ax,ar,av,aK⟩)).wp b (.inLoop x::di) cs l1 trivial (MO _)
     obtain ⟨a',a2,b0,⟨rfl,cp,ar,av,aK⟩,kg⟩:=body;cases aP with
     | normal=>
       have next:=hex au (.loop x) rd az bw aa aF cp a2 b0 av aK Q (ag.up ar)
       obtain ⟨cM,a3,im,bZ,bX⟩:=next b di cs l1
       exact ⟨cM,a3,im,bZ,.of_steps (StepsIn.trans kg (.one (qZ _) stepR_inLoop)) bX⟩
     | exit id=>exact ⟨.exit id,a2,b0,ag cp a2 b0 ar av aK,.pass (x:=.inLoop x) rfl (fun _ _=>.inl (by simp)) kg⟩
     | ret=>exact ⟨.ret,a2,b0,ag cp a2 b0 ar av aK,.pass (x:=.inLoop x) rfl (fun _ _=>.inl (by simp)) kg⟩
 | scope x br=>
   intro rd az r h aF E a w k s Q ag;simp only [jQ] at ag;refine WE (br rd az r h (aF.imp (fun h=>h) fun h=>h) E a w k s _ ?_).wp;cases ak:(jQ C au x).run ex r h with
   | fail=>rw [ak] at ag;exact ag
   | cT v bw aa=>rw [ak] at ag;exact ag
   | ok aP bw aa=>
     rw [ak] at ag;intro ax bu ao ar av aK;have:=ag ax bu ao ar av aK;cases aP<;>exact this
 | rangeFunc f bm x y _ _=>
   intro rd az r h aF E a w k s Q ag;rcases aF with rfl | aF
   case inr=>cases aF
   simp only [jQ] at ag;exact amq dE bJ iN hex k s ag
 | goto l=>intro rd az r h aF E a w k s Q ag;exact ag.elim
 | refuse aoD=>intro rd az r h aF E a w k s Q ag;exact ag.elim
end
section
variable {C:Ctx}
theorem RS (dE:C.P.follows .mixedOrders=true) (bJ:eT C.P) (iN:r5 C):∀n,tr C.P (exec C n)
 | 0=>fun au c rd az r h aF E a w k s Q ag=>ag.elim
 | n+1=>fun au c=>ab_ dE bJ iN (RS dE bJ iN n) au c
theorem abG (dE:C.P.follows .mixedOrders=true) (bJ:eT C.P) (iN:r5 C) {n:Nat} {f:FuncId} {args:List V} {h ab:ai} {v:V} (aA:Nat.beq f dC=false) (ak:C.ext f=none) (he:En C n f args h=.val v ab)
 {az:Fr} {E:Env} {w:World} {xs:List Value} (ay:bk E args xs) (s:bf az E h w):
 (∃fn,C.P.funcs[f]? =some fn/\fn.body.isSome=true)/\Calls C.P f xs.toArray w fun e ao=>∃ax x,e=.returned x/\E.le ax/\Rel ax v x/\bf az ax ab ao:=by
 unfold En sg at he;rw [aA,cond_false,ak] at he;simp only at he;exact EP bJ dE iN (RS dE bJ iN n) ay s (by rw [he];exact fun ax x ao ar av aK=>⟨ax,x,rfl,ar,av,aK⟩)
theorem WS (w:World) (hw:Lay.ok w):bf ⟨w,fun _=>none⟩ (fun _=>none) ai.empty w:=by
 refine ⟨fun b _=>?_,fun _ _ h=>(by cases h),(fun b bL p p' _ _ h=>by cases h),fun _ _=>rfl,Below.refl _ _,hw,(fun _ _ _ _ _ _ h=>by cases h)⟩;have:ai.empty.get b=.dead:=by simp [ai.get,ai.empty]
 rw [this];trivial
theorem an_ (dE:C.P.follows .mixedOrders=true) (bJ:eT C.P) {w:World} (hw:Lay.ok w) (iN:r5 C) {n:Nat} {f:FuncId} (aA:Nat.beq f dC=false) (ak:C.ext f=none) (h:Ns C n f []=true):
 Calls C.P f #[] w fun e ao=>e=.returned (.bool true)/\Below w.heap.size w ao:=by
 unfold Ns at h;cases aD:En C n f [] ai.empty with
 | fail=>rw [aD] at h;cases h
 | cT _ _=>rw [aD] at h;cases h
 | val v bl=>
   rw [aD] at h;simp only at h;cases v<;>simp only at h<;>try (cases h;done)
   subst h;obtain ⟨_,kX⟩:=abG dE bJ iN aA ak aD (az:=⟨w,fun _=>none⟩) (E:=fun _=>none) (w:=w) (xs:=[]) rfl (WS w hw);refine kX.mono fun e ao aC=>?_;obtain ⟨ax,x,rfl,_,av,aK⟩:=aC;simp only [Rel] at av;subst av;exact ⟨rfl,aK.frame⟩
end
inductive aY where
 | t (n:Nat)
 | c (v:V)
abbrev bd:=Nat->V
def aY.aT (r:bd):aY->V
 | .t n=>r n
 | .c v=>v
def aY.gg (r:bd):List aY->List V
 | []=>[]
 | x::xs=>x.aT r::aY.gg r xs
def rx:Operand->aY
 | .tmp t=>bif Nat.ble t top then .t t else .c .bad
 | .const v=>.c (hV v)
 | .func f=>bif Nat.beq f dC then .c .bad else .c (.func f [])
 | .global _=>.c .bad
def nN:List Operand->List aY
 | []=>[]
 | x::xs=>rx x::nN xs
def aY.opt (r:bd):Option aY->Option V
 | none=>none
 | some x=>some (x.aT r)
def ta:Option Operand->Option aY
 | none=>none
 | some x=>some (rx x)
inductive eG where
 | int (op:BinOp)
 | str (op:BinOp)
 | shl
 | shr
 | yq (neg:Bool)
 | jT (neg:Bool) (k:Nat)
 | other (op:BinOp) (t:TypeId)
def eG.run (P:Program):eG->V->V->Option V
 | .int op=>(l6 op).run
 | .str op=>(te op).run
 | .shl=>(xu true).run
 | .shr=>(xu false).run
 | .yq neg=>(jS neg qU).run
 | .jT neg k=>(jS neg (hC k)).run
 | .other op t=>(sc P op t).run
inductive tq where
 | int (k:IntKind)
 | bytes
 | str
 | other (s d:TypeId)
def tq.run (P:Program):tq->V->ai->a8
 | .int k=>fun x h=>x.eu .fail fun _ n=>.val (.int k (k.wrap n)) h
 | .bytes=>A4.run
 | .str=>tM.run
 | .other s d=>(qS P s d).run
inductive m' where
 | int | str | bool
def m'.eq:m'->dR
 | .int=>oc
 | .str=>vQ
 | .bool=>qU
inductive DL where
 | arr (n:Nat)
 | str
 | slice
 | map
inductive G where
 | bad
 | b1 (x:aY)
 | pick (c a b:aY)
 | new (z:List V)
 | box (x:aY)
 | build (z:List V) (bm:List (Nat × Nat × aY))
 | iw (len size:Nat) (z:List V) (bm:List (Nat × Nat × aY))
 | d_ (x:aY)
 | iV (size:Nat) (x:aY)
 | st (size:Nat) (x y:aY)
 | h8 (x:aY)
 | bin (k:eG) (x y:aY)
 | un (op:UnOp) (x:aY)
 | kz (k:tq) (x:aY)
 | fn (f:FuncId) (e4:List aY)
 | Cv (f:FuncId) (first:List aY)
 | D8 (t:TypeId) (z:Option V) (ok:Bool) (x:aY)
 | sS (t:TypeId) (x:aY)
 | s5 (size:Nat) (z:List V) (l c:aY)
 | rO (x:aY) (bB an ei:Option aY)
 | fU (size:Nat) (x:aY) (bB an ei:Option aY)
 | eJ (off:Nat) (x:aY)
 | vU (off:Nat) (x:aY)
 | vV (off size:Nat) (x:aY)
 | ct (size:Nat) (x i:aY)
 | l3 (n size:Nat) (x i:aY)
 | mH (x i:aY)
 | kl (t:TypeId) (x i:aY)
 | look (k:m') (z:V) (ok:Bool) (x i:aY)
 | e0 (k:m') (m i x:aY)
 | nG (x:Option aY)
 | zQ (x:aY)
 | zA (x:aY)
 | ext (x:aY) (i:Nat)
 | call (f:FuncId) (args:List aY)
 | o2 (f:aY) (args:List aY)
 | len (k:DL) (x:aY)
 | app (size:Nat) (s x:aY)
 | copy (size:Nat) (d s:aY)
 | uD (args:List aY)
 | ei (args:List aY)
 | Q7 (z:List V) (x:aY)
 | tK (x:aY)
 | x8 (size:Nat) (z:List V) (s x:aY)
 | ry (z:V) (ok:Bool) (x i:aY)
 | looks (k:TypeId) (z:V) (ok:Bool) (x i:aY)
 | xD (m i x:aY)
 | C' (k:TypeId) (m i x:aY)
 | w8 (z:V) (m i:aY)
 | Cu (k:TypeId) (z:V) (m i:aY)
 | vT (m s x:aY)
 | CZ (x:aY)
 | CE (x:aY)
 | Ba (x:aY)
 | peq (neg:Bool) (x y:aY)
def kU (r:bd):List (Nat × Nat × aY)->List (Nat × Nat × V)
 | []=>[]
 | (o,s,x)::bm=>(o,s,x.aT r)::kU r bm
def js:List V->List (Nat × Nat × V)->Option (List V)
 | cells,[]=>some cells
 | cells,(off,size,v)::rest=>bif v.fY&&(Nat.beq v.cells.length size&&Nat.ble (off+v.cells.length) cells.length) then js (so cells off v.cells) rest else none
def DL.run:DL->V->ai->a8
 | .arr n=>fun _ h=>.val (.int .i64 n) h
 | .str=>fun x h=>a8.of h ((pq .string).run x)
 | .slice=>fun x h=>a8.of h ((pq (.slice 0)).run x)
 | .map=>fun x h=>Cn [x] h
def uP (neg:Bool) (h:ai) (x y:V):Option V:=
 match ht h x y with
 | some b=>some (.bool (bif neg then !b else b))
 | none=>none
def G.run (P:Program) (g:G) (call:dU) (r:bd) (h:ai):a8:=
 match g with
 | .bad=>.fail
 | .b1 x=>.val (x.aT r) h
 | .pick c a b=>match c.aT r with
   | .bool t=>.val (bif t then a.aT r else b.aT r) h
   | _=>.fail
 | .new z=>hr (.ptr (aj h.next) 0) (gM h z)
 | .box x=>bif (x.aT r).fY then hr (.ptr (aj h.next) 0) (gM h (x.aT r).cells) else .fail
 | .build z bm=>(match js z (kU r bm) with
   | some cs=>.val (.agg cs) h
   | none=>.fail)
 | .iw n _ z bm=>match js (hM z n) (kU r bm) with
   | some cs=>(match gM h cs with
     | some ab=>.val (.slice (aj h.next) 0 n n) ab
     | none=>.fail)
   | none=>.fail
 | .d_ x=>a8.of h (nE h (x.aT r))
 | .iV n x=>a8.of h (nD n h (x.aT r))
 | .st n x y=>hr .bad (pI n h (x.aT r) (y.aT r))
 | .h8 x=>a8.of h (uE (x.aT r))
 | .bin k x y=>a8.of h (k.run P (x.aT r) (y.aT r))
 | .un op x=>a8.of h (rS op (x.aT r))
 | .kz k x=>k.run P (x.aT r) h
 | .fn f e4=>.val (.func f (aY.gg r e4)) h
 | .Cv f first=>.val (.oF f (aY.gg r first)) h
 | .D8 t z ok x=>a8.of h (AR t z ok (x.aT r))
 | .sS t x=>.val (.iface t (x.aT r)) h
 | .s5 n z l c=>s0 n z (l.aT r) (c.aT r) h
 | .rO x bB an m3=>a8.of h (mS (x.aT r) (aY.opt r bB) (aY.opt r an) (aY.opt r m3))
 | .fU n x bB an m3=>a8.of h (match x.aT r with
   | .bF=>xv (aY.opt r bB) (aY.opt r an) (aY.opt r m3)
   | .slice b off j2 cap=>tb n b off j2 cap (aY.opt r bB) (aY.opt r an) (aY.opt r m3)
   | .dY b off j2 idx=>qB n b off j2 idx (aY.opt r bB) (aY.opt r an) (aY.opt r m3)
   | .hY b off j8 idx=>C2 b off j8 idx (aY.opt r bB) (aY.opt r an) (aY.opt r m3)
   | _=>none)
 | .eJ off x=>a8.of h ((x.aT r).jz none fun b o=>some (.ptr b (o+off)))
 | .vU off x=>a8.of h (match x.aT r with
   | .agg cs=>cs[off]?
   | _=>none)
 | .vV off n x=>a8.of h (match x.aT r with
   | .agg cs=>some (.agg ((cs.drop off).take n))
   | _=>none)
 | .ct n x i=>a8.of h ((wR n).run (x.aT r) (i.aT r))
 | .l3 n s x i=>a8.of h ((sU n s).run (x.aT r) (i.aT r))
 | .mH x i=>a8.of h (sW.run (x.aT r) (i.aT r))
 | .kl t x i=>a8.of h ((sV P t).run (x.aT r) (i.aT r))
 | .look k z ok x i=>a8.of h (rz k.eq z ok h (x.aT r) (i.aT r))
 | .e0 k m i x=>hr .bad (k_ k.eq h (m.aT r) (i.aT r) (x.aT r))
 | .nG x=>sZ (aY.opt r x) h
 | .zQ x=>(match x.aT r with
   | .str s=>.val (.ptr (aj h.next) 0) (h.new (.iter s 0))
   | _=>.fail)
 | .zA x=>xa (x.aT r) h
 | .ext x i=>(match x.aT r with
   | .tuple ah=>a8.of h ah[i]?
   | _=>.fail)
 | .call f args=>call f (aY.gg r args) h
 | .o2 f args=>(f.aT r).zD (aY.gg r args) fun g xs=>call g xs h
 | .len k x=>k.run (x.aT r) h
 | .app n s x=>iK n (s.aT r) (x.aT r) h
 | .copy n d s=>copyV n (d.aT r) (s.aT r) h
 | .uD args=>a8.of h (k6 (fun b a=>!Int.leB a b) (aY.gg r args))
 | .ei args=>a8.of h (k6 (fun b a=>!Int.leB b a) (aY.gg r args))
 | .Q7 z x=>Es z (x.aT r) h
 | .tK x=>a8.of h (sh (x.aT r))
 | .x8 n z s x=>x7 n z (s.aT r) (x.aT r) h
 | .ry z ok x i=>a8.of h (jx ⟨ht h⟩ z ok h (x.aT r) (i.aT r))
 | .looks k z ok x i=>a8.of h (bif nB P k (i.aT r) then jx (structEq P k) z ok h (x.aT r) (i.aT r) else none)
 | .xD m i x=>hr .bad (k_ ⟨ht h⟩ h (m.aT r) (i.aT r) (x.aT r))
 | .C' k m i x=>hr .bad (bif nB P k (i.aT r) then k_ (structEq P k) h (m.aT r) (i.aT r) (x.aT r) else none)
 | .w8 z m i=>ym z (m.aT r) (i.aT r) h
 | .Cu k z m i=>EB P k z (m.aT r) (i.aT r) h
 | .vT m s x=>hr .bad (tQ h (m.aT r) (s.aT r) (x.aT r))
 | .CZ x=>rangeMap (x.aT r) h
 | .CE x=>hf (x.aT r) h
 | .Ba x=>Bb (x.aT r) h
 | .peq neg x y=>a8.of h (uP neg h (x.aT r) (y.aT r))
def MF (P:Program) (op:BinOp) (t:TypeId):eG:=
 match op with
 | .shl=>.shl
 | .shr=>.shr
 | op=>match a_ P t with
   | none=>.other op t
   | some aS=>match aS.bg with
     | .int _=>.int op
     | .string=>.str op
     | .bool=>(match op with
       | .eql=>.yq false
       | .neq=>.yq true
       | _=>.other op t)
     | .pointer _=>(match op with
       | .eql=>.jT false 1
       | .neq=>.jT true 1
       | _=>.other op t)
     | .slice _=>(match op with
       | .eql=>.jT false 2
       | .neq=>.jT true 2
       | _=>.other op t)
     | .map _ _=>(match op with
       | .eql=>.jT false 3
       | .neq=>.jT true 3
       | _=>.other op t)
     | .func _ _ _=>(match op with
       | .eql=>.jT false 4
       | .neq=>.jT true 4
       | _=>.other op t)
     | _=>.other op t
def MK (P:Program) (op:BinOp) (t:TypeId) (lit:Bool):eG:=
 bif lit then (match a_ P t with
  | some aS=>match aS.bg with
    | .interface _=>match op with
      | .eql=>.jT false 5
      | .neq=>.jT true 5
      | _=>.jT false 99
    | _=>.jT false 99
  | none=>.jT false 99) else MF P op t
def MI (P:Program) (s d:TypeId):tq:=
 match a_ P s,a_ P d with
 | some uX,some o3=>match o3.bg with
   | .int k=>.int k
   | .string=>match uX.bg with
     | .slice e=>match a_ P e with
       | some bb=>match bb.bg with
         | .int .u8=>.str
         | _=>.other s d
       | none=>.other s d
     | _=>.other s d
   | .slice e=>match a_ P e with
     | some bb=>match bb.bg with
       | .int .u8=>.bytes
       | _=>.other s d
     | none=>.other s d
   | _=>.other s d
 | _,_=>.other s d
def qx (place:Nat->Option (Nat × Nat)):List (Nat × Operand)->Option (List (Nat × Nat × aY))
 | []=>some []
 | (i,x)::bm=>match place i with
   | none=>none
   | some (off,size)=>match qx place bm with
     | none=>none
     | some l=>some ((off,size,rx x)::l)
def Wk (P:Program) (t:TypeId) (bm:List (Nat × Operand)):G:=
 match a_ P t with
 | some aS=>match aS.zero with
   | some z=>match aS.bg with
     | .struct cv=>bif EN P cv.toList then (match qx (yv P cv) bm with
       | some l=>.build z.cells l
       | none=>.bad) else .bad
     | .array _ e=>match a_ P e with
       | some bb=>(match qx (fun i=>some (i * bb.size,bb.size)) bm with
         | some l=>.build z.cells l
         | none=>.bad)
       | none=>.bad
     | _=>.bad
   | none=>.bad
 | none=>.bad
def Wn (P:Program) (t:TypeId) (len:Nat) (bm:List (Nat × Operand)):G:=
 match a_ P t with
 | some aS=>match aS.bg with
   | .slice e=>match a_ P e with
     | some bb=>match bb.zero with
       | some z=>bif Nat.ble (len * bb.size) 1000000&&Nat.beq z.cells.length bb.size then
          (match qx (fun i=>some (i * bb.size,bb.size)) bm with
          | some l=>.iw len bb.size z.cells l
          | none=>.bad) else .bad
       | none=>.bad
     | none=>.bad
   | _=>.bad
 | none=>.bad
def wV:TypeDesc->Option m'
 | .int _=>some .int
 | .string=>some .str
 | .bool=>some .bool
 | _=>none
def I4 (P:Program) (t:TypeId):Option (List V):=
 match a_ P t with
 | some aS=>match aS.bg with
   | .slice e=>match a_ P e with
     | some bb=>match bb.zero with
       | some z=>some z.cells
       | none=>none
     | none=>none
   | _=>none
 | none=>none
theorem ab' (P:Program) (t:TypeId):A2 P t=I4 P t:=rfl
def MH (P:Program) (c:Call):G:=
 match c.callee with
 | .value (.func f)=>bif Nat.beq f dC then .bad else .call f (nN c.args.toList)
 | .value x=>.o2 (rx x) (nN c.args.toList)
 | .invoke _ _=>.bad
 | .builtin b=>match b with
   | .len=>match c.argTypes.toList,c.args.toList with
     | [t],[x]=>(match a_ P t with
       | some aS=>(match aS.bg with
         | .map _ _=>.len .map (rx x)
         | .array n _=>.len (.arr n) (rx x)
         | .string=>.len .str (rx x)
         | .slice _=>.len .slice (rx x)
         | _=>.bad)
       | none=>.bad)
     | _,_=>.bad
   | .append=>match c.argTypes.toList,c.args.toList with
     | [t,u],[s,x]=>(match a_ P t,a_ P u with
       | some aS,some ti=>(match ti.bg with
         | .int _=>(match aS.bg with
           | .slice e=>(match a_ P e with
             | none=>.bad
             | some bb=>match bb.zero with
               | none=>.bad
               | some z=>bif Nat.ble 1 bb.size&&Nat.ble bb.bytes 4096&&Nat.beq z.cells.length bb.size then .x8 bb.size z.cells (rx s) (rx x) else .bad)
           | _=>.bad)
         | _=>match aS.bg with
           | .slice e=>(match a_ P e with
             | none=>.bad
             | some bb=>match bb.zero with
               | none=>.bad
               | some z=>bif Nat.ble 1 bb.size&&Nat.ble bb.bytes 4096&&Nat.beq z.cells.length bb.size then .app bb.size (rx s) (rx x) else .bad)
           | _=>.bad)
       | _,_=>.bad)
     | _,_=>.bad
   | .copy=>match c.argTypes.toList,c.args.toList with
     | t::_,[d,s]=>(match a_ P t with
       | some aS=>(match aS.bg with
         | .slice e=>(match a_ P e with
           | some bb=>.copy bb.size (rx d) (rx s)
           | none=>.bad)
         | _=>.bad)
       | none=>.bad)
     | _,_=>.bad
   | .min=>.uD (nN c.args.toList)
   | .max=>.ei (nN c.args.toList)
   | .clear=>match c.argTypes.toList,c.args.toList with
     | [t],[x]=>(match I4 P t with
       | some z=>.Q7 z (rx x)
       | none=>.bad)
     | _,_=>.bad
   | .cap=>match c.argTypes.toList,c.args.toList with
     | [t],[x]=>(match a_ P t with
       | some aS=>bif Ca aS.bg then .tK (rx x) else .bad
       | none=>.bad)
     | _,_=>.bad
   | _=>.bad
def GR (P:Program) (op:Op):G:=
 match op with
 | .move x=>.b1 (rx x)
 | .assign x=>.b1 (rx x)
 | .pick c a b=>.pick (rx c) (rx a) (rx b)
 | .alloc t=>(match a_ P t with
   | some aS=>(match aS.zero with
     | some z=>.new z.cells
     | none=>.bad)
   | none=>.bad)
 | .box _ x=>.box (rx x)
 | .build t bm=>Wk P t bm.toList
 | .buildSlice t n bm=>Wn P t n bm.toList
 | .load t x=>(match a_ P t with
   | none=>.bad
   | some aS=>bif aS.agg then .iV aS.size (rx x) else bif Nat.beq aS.size 1 then .d_ (rx x) else .bad)
 | .store t x y=>(match a_ P t with
   | none=>.bad
   | some aS=>.st aS.size (rx x) (rx y))
 | .nilCheck x=>.h8 (rx x)
 | .binOp op t x y _=>.bin (MK P op t (rv x||rv y)) (rx x) (rx y)
 | .unOp op _ x=>.un op (rx x)
 | .convert s d x=>.kz (MI P s d) (rx x)
 | .makeFunc (.func f) first e4=>bif first.isEmpty&&!Nat.beq f dC then .fn f (nN e4.toList) else bif e4.isEmpty&&!Nat.beq f dC then .Cv f (nN first.toList) else .bad
 | .makeInterface t x=>(match a_ P t with
   | some aS=>bif Nat.beq (fl aS.bg) 5 then .bad else .sS t (rx x)
   | none=>.bad)
 | .makeSlice t l c=>(match a_ P t with
   | some aS=>(match aS.bg with
     | .slice e=>(match a_ P e with
       | some bb=>(match bb.zero with
         | some z=>bif Nat.ble bb.bytes 4096 then .s5 bb.size z.cells (rx l) (rx c) else .bad
         | none=>.bad)
       | none=>.bad)
     | _=>.bad)
   | none=>.bad)
 | .slice t x bB an ei=>(match a_ P t with
   | none=>.bad
   | some aS=>match aS.bg with
     | .string=>.rO (rx x) (ta bB) (ta an) (ta ei)
     | .slice e=>(match a_ P e with
       | none=>.bad
       | some bb=>.fU bb.size (rx x) (ta bB) (ta an) (ta ei))
     | _=>.bad)
 | .fieldAddr t x i=>(match q0 P t i with
   | none=>.bad
   | some f=>match a_ P f.type with
     | none=>.bad
     | some kW=>bif Nat.beq kW.size 0 then .bad else .eJ f.offset (rx x))
 | .field t x i=>(match q0 P t i with
   | none=>.bad
   | some f=>match a_ P f.type with
     | none=>.bad
     | some aS=>bif aS.agg then .vV f.offset aS.size (rx x) else .vU f.offset (rx x))
 | .indexAddr t x i=>(match a_ P t with
   | none=>.bad
   | some aS=>match aS.bg with
     | .slice e=>(match a_ P e with
       | none=>.bad
       | some bb=>.ct bb.size (rx x) (rx i))
     | .array n e=>(match a_ P e with
       | none=>.bad
       | some bb=>.l3 n bb.size (rx x) (rx i))
     | _=>.bad)
 | .index t x i=>(match a_ P t with
   | none=>.bad
   | some aS=>match aS.bg with
     | .string=>.mH (rx x) (rx i)
     | _=>.kl t (rx x) (rx i))
 | .range t x=>(match a_ P t with
   | some aS=>(match aS.bg with
     | .string=>.zQ (rx x)
     | .map _ _=>.CZ (rx x)
     | _=>.bad)
   | none=>.bad)
 | .next it s=>bif s then .zA (rx it) else .CE (rx it)
 | .entry it=>.Ba (rx it)
 | .lookup t x k ok=>(match a_ P t with
   | some aS=>(match aS.bg with
     | .map bj e=>(match a_ P bj with
       | some gU=>(match a_ P e with
         | some bb=>(match bb.zero with
           | some z=>(match wV gU.bg with
             | some di=>.look di z ok (rx x) (rx k)
             | none=>bif k2 gU.bg then .bad else bif jA P bj then .ry z ok (rx x) (rx k) else bif mh P bj then .looks bj z ok (rx x) (rx k) else .bad)
           | none=>.bad)
         | none=>.bad)
       | none=>.bad)
     | _=>.bad)
   | none=>.bad)
 | .mapUpdate t m k x | .insert t m k x=>(match a_ P t with
   | some aS=>(match aS.bg with
     | .map bj _=>(match a_ P bj with
       | some gU=>(match wV gU.bg with
         | some di=>.e0 di (rx m) (rx k) (rx x)
         | none=>bif k2 gU.bg then .bad else bif jA P bj then .xD (rx m) (rx k) (rx x) else bif mh P bj then .C' bj (rx m) (rx k) (rx x) else .bad)
       | none=>.bad)
     | _=>.bad)
   | none=>.bad)
 | .mapEntry t m k=>(match a_ P t with
   | some aS=>(match aS.bg with
     | .map bj e=>(match a_ P e with
       | some bb=>(match bb.zero with
         | some z=>bif jA P bj then .w8 z (rx m) (rx k) else bif mh P bj then .Cu bj z (rx m) (rx k) else .bad
         | none=>.bad)
       | none=>.bad)
     | _=>.bad)
   | none=>.bad)
 | .entryStore _ m st x=>.vT (rx m) (rx st) (rx x)
 | .makeMap t x=>(match a_ P t with
   | some aS=>bif Nat.beq (fl aS.bg) 3 then .nG (ta x) else .bad
   | none=>.bad)
 | .extract x i=>.ext (rx x) i
 | .typeAssert x _ t ok=>(match a_ P t with
   | some aS=>bif Nat.beq (fl aS.bg) 5 then .bad else .D8 t aS.zero ok (rx x)
   | none=>.bad)
 | .call c=>MH P c
 | _=>.bad
def eo (ch:bI):bd:=fun t=>T.get .bad (aj t) ch
theorem fb (ch:bI) (x:Operand):(bT x).run ch=(rx x).aT (eo ch):=by
 cases x with
 | tmp t=>
   simp only [bT,rx];cases Nat.ble t top<;>rfl
 | const v=>rfl
 | func f=>
   simp only [bT,rx];cases Nat.beq f dC<;>rfl
 | global g=>rfl
theorem ys (ch:bI):∀xs:List Operand,(qX xs).run ch=aY.gg (eo ch) (nN xs)
 | []=>rfl
 | x::xs=>by simp only [qX,nN,aY.gg,fb,ys ch xs]
theorem L5 (ch:bI) (x:Option Operand):(rH x).run ch=aY.opt (eo ch) (ta x):=by
 cases x with
 | none=>rfl
 | some x=>simp only [rH,ta,aY.opt,fb]
theorem EO (ch:bI) {place:Nat->Option (Nat × Nat)}:∀{bm:List (Nat × Operand)} {l:List (Nat × Nat × aY)},qx place bm=some l->∀cells,ng place cells ((uK bm).run ch)=js cells (kU (eo ch) l)
 | [],l,h,cells=>by simp only [qx,Option.some.injEq] at h;subst h;rfl
 | (i,x)::bm,l,h,cells=>by
   simp only [qx] at h;cases ag:place i with
   | none=>rw [ag] at h;cases h
   | some os=>
     obtain ⟨off,size⟩:=os;rw [ag] at h;simp only at h;cases ay:qx place bm with
     | none=>rw [ay] at h;cases h
     | some dT=>
       rw [ay] at h;simp only [Option.some.injEq] at h;subst h;simp only [uK,ng,ag,kU,js,fb];cases ((rx x).aT (eo ch)).fY&&(Nat.beq ((rx x).aT (eo ch)).cells.length size&&Nat.ble (off + ((rx x).aT (eo ch)).cells.length) cells.length) with
       | false=>rfl
       | true=>exact EO ch ay _
section
variable {P:Program}
theorem amv (op:BinOp) (t:TypeId):(MF P op t).run P=(sc P op t).run:=by
 unfold MF sc;cases op<;>first | rfl | skip
 all_goals
  cases aw:a_ P t with
  | none=>simp only [eG.run];unfold sc;rw [aw]
  | some aS=>
    simp only;cases hu:aS.bg<;>first | rfl | (simp only [eG.run];unfold sc;rw [aw];simp only [hu];done) | (simp only [eG.run];unfold pZ h3;simp only [aw,hu];first | done | rfl)
theorem amy (op:BinOp) (t:TypeId) (lit:Bool):(MK P op t lit).run P=(AU P op t lit).run:=by
 unfold MK AU;cases lit with
 | false=>simp only [cond_false];exact amv op t
 | true=>
   simp only [cond_true];cases a_ P t with
   | none=>rfl
   | some aS=>
     simp only;cases aS.bg<;>first | rfl | (cases op<;>rfl)
theorem amx (s d:TypeId):(MI P s d).run P=(qS P s d).run:=by
 unfold MI
 split
 . rename_i uX o3 aR bc
   split
   . rename_i k hu;simp only [tq.run];unfold qS;rw [aR,bc];simp only [hu]
   . rename_i hu
     split
     . rename_i e bh
       split
       . rename_i bb he
         split
         . rename_i hw;simp only [tq.run];unfold qS;rw [aR,bc];simp only [hu,bh,he,hw]
         . rfl
       . rfl
     . rfl
   . rename_i e hu
     split
     . rename_i bb he
       split
       . rename_i hw;simp only [tq.run];unfold qS;rw [aR,bc];simp only [hu,he,hw]
       . rfl
     . rfl
   . rfl
 . rfl
theorem Lm {d:TypeDesc} {di:m'} (h:wV d=some di):k2 d=true/\lz d=di.eq:=by cases d<;>simp only [wV] at h<;>first | (cases h;done) | (cases h;exact ⟨rfl,rfl⟩)
theorem amw {c:Call} {call:dU} {ch:bI} {h ab:ai} {v:V} (he:(MH P c).run P call (eo ch) h=.val v ab):(sf P c).run call ch h=.val v ab:=by
 unfold MH at he;unfold sf
 split at he
 . rename_i f aD;rw [aD];cases aZ:Nat.beq f dC with
   | true=>rw [aZ] at he;cases he
   | false=>
     rw [aZ] at he;simp only [cond_false,G.run] at he;simpa only [bT,aZ,cond_false,qW,V.zD,ys,List.append_nil] using he
 . rename_i x ak aD;rw [aD];simp only [G.run] at he;simpa only [fb,ys] using he
 . cases he
 . rename_i b aD;rw [aD];simp only [ys];cases b<;>simp only at he<;>try (cases he;done)
   case len=>
    split at he
    . rename_i t x aw ak;cases kk:a_ P t with
      | none=>rw [kk] at he;cases he
      | some aS=>
        rw [kk] at he;simp only at he;simp only [qR,aw,kk,ak,nN,aY.gg];cases hu:aS.bg<;>rw [hu] at he<;>first | (cases he;done) | (simpa only [uv,cond_true,cond_false,G.run,DL.run,pq,a8.of] using he)
    . cases he
   case append=>
    split at he
    . rename_i t u s x aw ak
      split at he
      . rename_i aS ti kk y_;simp only [qR,aw,ak,nN,aY.gg,D4,kk,y_]
        split at he
        . rename_i k agi
          split at he
          . rename_i e cx;cases eX:a_ P e with
            | none=>rw [eX] at he;cases he
            | some bb=>
              rw [eX] at he;simp only at he;cases bn:bb.zero with
              | none=>rw [bn] at he;cases he
              | some z=>
                rw [bn] at he;simp only at he;cases ae:(Nat.ble 1 bb.size&&Nat.ble bb.bytes 4096&&Nat.beq z.cells.length bb.size) with
                | false=>rw [ae] at he;cases he
                | true=>
                  rw [ae] at he;simp only [cond_true,G.run] at he;simp only [agi,cx,eX,bn,ae,cond_true];exact he
          . cases he
        . rename_i cl
          split at he
          . rename_i e cx;cases eX:a_ P e with
            | none=>rw [eX] at he;cases he
            | some bb=>
              rw [eX] at he;simp only at he;cases bn:bb.zero with
              | none=>rw [bn] at he;cases he
              | some z=>
                rw [bn] at he;simp only at he;cases ae:(Nat.ble 1 bb.size&&Nat.ble bb.bytes 4096&&Nat.beq z.cells.length bb.size) with
                | false=>rw [ae] at he;cases he
                | true=>
                  rw [ae] at he;simp only [cond_true,G.run] at he;cases K1:ti.bg<;>first
                   | (exact absurd K1 (cl _))
                   | (simp only [cx,eX,bn,ae,cond_true];exact he)
          . cases he
      . cases he
    . cases he
   case copy=>
    split at he
    . rename_i t cQ d s aw ak;cases kk:a_ P t with
      | none=>rw [kk] at he;cases he
      | some aS=>
        rw [kk] at he;simp only at he
        split at he
        . rename_i e cx;cases eX:a_ P e with
          | none=>rw [eX] at he;cases he
          | some bb=>
            rw [eX] at he;simp only [G.run] at he;simp only [qR,aw,ak,nN,aY.gg,Et,kk,cx,eX];exact he
        . cases he
    . cases he
   case min=>exact he
   case max=>exact he
   case clear=>
    split at he
    . rename_i t x aw ak;cases aD:I4 P t with
      | none=>rw [aD] at he;cases he
      | some z=>
        rw [aD] at he;simp only [G.run] at he;simp only [qR,aw,ak,nN,aY.gg,ab',aD];exact he
    . cases he
   case cap=>
    split at he
    . rename_i t x aw ak;cases kk:a_ P t with
      | none=>rw [kk] at he;cases he
      | some aS=>
        rw [kk] at he;simp only at he;cases ae:Ca aS.bg with
        | false=>rw [ae] at he;cases he
        | true=>
          rw [ae] at he;simp only [cond_true,G.run] at he;simp only [qR,aw,ak,nN,aY.gg,kk,ae,cond_true];exact he
    . cases he
theorem Wl {o:Oper} {call:dU} {ch:bI} {h ab:ai} {v:V} (he:(GR P o.op).run P call (eo ch) h=.val v ab):(fD P o).run call ch h=.val v ab:=by
 obtain ⟨dst,op,type,pos,after,guard⟩:=o;cases op<;>simp only [GR] at he<;>try (cases he;done)
 all_goals simp only [fD]
 case move x=>simpa only [fb,G.run] using he
 case assign x=>simpa only [fb,G.run] using he
 case pick c a b=>
  simp only [fb,G.run] at he ⊢;generalize (rx c).aT (eo ch)=q at he ⊢;cases q<;>exact he
 case alloc t=>
  cases aw:a_ P t with
  | none=>rw [aw] at he;cases he
  | some aS=>
    rw [aw] at he;simp only at he ⊢;cases bn:aS.zero with
    | none=>rw [bn] at he;cases he
    | some z=>rw [bn] at he;exact he
 case box t x=>simpa only [fb,G.run] using he
 case build t bm=>
  unfold Wk at he;unfold Ef;cases aw:a_ P t with
  | none=>rw [aw] at he;cases he
  | some aS=>
    rw [aw] at he;simp only at he ⊢;cases bn:aS.zero with
    | none=>rw [bn] at he;cases he
    | some z=>
      rw [bn] at he;simp only at he ⊢;cases hu:aS.bg<;>rw [hu] at he<;>simp only at he ⊢<;>try (cases he;done)
      . rename_i n e;cases eX:a_ P e with
        | none=>rw [eX] at he;cases he
        | some bb=>
          rw [eX] at he;simp only at he ⊢;cases ag:qx (fun i=>some (i * bb.size,bb.size)) bm.toList with
          | none=>rw [ag] at he;cases he
          | some l=>
            rw [ag] at he;simp only [G.run] at he;rw [EO ch ag];cases aA:js z.cells (kU (eo ch) l) with
            | none=>rw [aA] at he;cases he
            | some cs=>rw [aA] at he;exact he
      . rename_i cv;cases aH:EN P cv.toList with
        | false=>rw [aH] at he;cases he
        | true=>
          rw [aH] at he;simp only [cond_true] at he ⊢;cases ag:qx (yv P cv) bm.toList with
          | none=>rw [ag] at he;cases he
          | some l=>
            rw [ag] at he;simp only [G.run] at he;rw [EO ch ag];cases aA:js z.cells (kU (eo ch) l) with
            | none=>rw [aA] at he;cases he
            | some cs=>rw [aA] at he;exact he
 case buildSlice t n bm=>
  unfold Wn at he;unfold vH;cases aw:a_ P t with
  | none=>rw [aw] at he;cases he
  | some aS=>
    rw [aw] at he;simp only at he ⊢;cases hu:aS.bg<;>rw [hu] at he<;>simp only at he ⊢<;>try (cases he;done)
    rename_i e;cases eX:a_ P e with
    | none=>rw [eX] at he;cases he
    | some bb=>
      rw [eX] at he;simp only at he ⊢;cases bn:bb.zero with
      | none=>rw [bn] at he;cases he
      | some z=>
        rw [bn] at he;simp only at he ⊢;cases ae:(Nat.ble (n * bb.size) 1000000&&Nat.beq z.cells.length bb.size) with
        | false=>rw [ae] at he;cases he
        | true=>
          rw [ae] at he;simp only [cond_true] at he ⊢;cases ag:qx (fun i=>some (i * bb.size,bb.size)) bm.toList with
          | none=>rw [ag] at he;cases he
          | some l=>
            rw [ag] at he;simp only [G.run] at he;rw [EO ch ag];exact he
 case load t x=>
  unfold qo;cases aw:a_ P t with
  | none=>rw [aw] at he;cases he
  | some aS=>
    rw [aw] at he;simp only at he ⊢;cases a1:aS.agg with
    | true=>rw [a1] at he;simpa only [cond_true,fb,G.run] using he
    | false=>
      rw [a1] at he;simp only [cond_false] at he ⊢;cases aR:Nat.beq aS.size 1 with
      | true=>rw [aR] at he;simpa only [cond_true,fb,G.run] using he
      | false=>rw [aR] at he;cases he
 case store t x y=>
  unfold tc;cases aw:a_ P t with
  | none=>rw [aw] at he;cases he
  | some aS=>rw [aw] at he;simpa only [fb,G.run] using he
 case nilCheck x=>simpa only [fb,G.run] using he
 case binOp op t x y t2=>simpa only [fb,G.run,amy] using he
 case unOp op t x=>simpa only [fb,G.run] using he
 case convert s d x=>simpa only [fb,G.run,amx] using he
 case makeFunc fn first e4=>
  cases fn<;>simp only at he<;>try (cases he;done)
  simp only;cases aA:(first.isEmpty&&!Nat.beq _ dC) with
  | true=>rw [aA] at he;simpa only [cond_true,ys,G.run] using he
  | false=>
    rw [aA] at he;simp only [cond_false] at he ⊢;cases jX:(e4.isEmpty&&!Nat.beq _ dC) with
    | true=>rw [jX] at he;simpa only [cond_true,ys,G.run] using he
    | false=>rw [jX] at he;cases he
 case typeAssert x u7 t ok=>
  cases aw:a_ P t with
  | none=>rw [aw] at he;cases he
  | some aS=>
    rw [aw] at he;simp only at he ⊢;cases ae:Nat.beq (fl aS.bg) 5 with
    | true=>rw [ae] at he;cases he
    | false=>rw [ae] at he;simpa only [cond_false,fb,G.run] using he
 case makeInterface t x=>
  cases aw:a_ P t with
  | none=>rw [aw] at he;cases he
  | some aS=>
    rw [aw] at he;simp only at he ⊢;cases ae:Nat.beq (fl aS.bg) 5 with
    | true=>rw [ae] at he;cases he
    | false=>rw [ae] at he;simpa only [cond_false,fb,G.run] using he
 case makeSlice t l c=>
  unfold w5;cases aw:a_ P t with
  | none=>rw [aw] at he;cases he
  | some aS=>
    rw [aw] at he;simp only at he ⊢;cases hu:aS.bg<;>rw [hu] at he<;>simp only at he ⊢<;>try (cases he;done)
    rename_i e;cases eX:a_ P e with
    | none=>rw [eX] at he;cases he
    | some bb=>
      rw [eX] at he;simp only at he ⊢;cases bn:bb.zero with
      | none=>rw [bn] at he;cases he
      | some z=>
        rw [bn] at he;simp only at he ⊢;cases ae:Nat.ble bb.bytes 4096 with
        | false=>rw [ae] at he;cases he
        | true=>rw [ae] at he;simpa only [cond_true,fb,G.run] using he
 case slice t x bB an m3=>
  unfold G1;cases aw:a_ P t with
  | none=>rw [aw] at he;cases he
  | some aS=>
    rw [aw] at he;simp only at he ⊢;cases hu:aS.bg<;>rw [hu] at he<;>simp only at he ⊢<;>try (cases he;done)
    . simpa only [fb,L5,G.run] using he
    . rename_i e;cases eX:a_ P e with
      | none=>rw [eX] at he;cases he
      | some bb=>
        rw [eX] at he;simp only [fb,L5,G.run] at he ⊢;generalize (rx x).aT (eo ch)=q at he ⊢;cases q<;>exact he
 case fieldAddr t x i=>
  unfold EK;cases aA:q0 P t i with
  | none=>rw [aA] at he;cases he
  | some f=>
    rw [aA] at he;simp only at he ⊢;cases aw:a_ P f.type with
    | none=>rw [aw] at he;cases he
    | some kW=>
      rw [aw] at he;simp only at he ⊢;cases ae:Nat.beq kW.size 0 with
      | true=>rw [ae] at he;cases he
      | false=>rw [ae] at he;simpa only [cond_false,fb,G.run] using he
 case field t x i=>
  unfold EL;cases aA:q0 P t i with
  | none=>rw [aA] at he;cases he
  | some f=>
    rw [aA] at he;simp only [qv] at he ⊢;cases aw:a_ P f.type with
    | none=>rw [aw] at he;cases he
    | some kW=>
      rw [aw] at he;simp only at he ⊢;cases ae:kW.agg with
      | true=>
        rw [ae] at he;simp only [cond_true,fb,G.run] at he ⊢;generalize (rx x).aT (eo ch)=q at he ⊢;cases q<;>exact he
      | false=>
        rw [ae] at he;simp only [cond_false,fb,G.run] at he ⊢;generalize (rx x).aT (eo ch)=q at he ⊢;cases q<;>exact he
 case indexAddr t x i=>
  unfold FP;cases aw:a_ P t with
  | none=>rw [aw] at he;cases he
  | some aS=>
    rw [aw] at he;simp only at he ⊢;cases hu:aS.bg<;>rw [hu] at he<;>simp only at he ⊢<;>try (cases he;done)
    all_goals
     rename_i e;cases eX:a_ P e with
     | none=>rw [eX] at he;cases he
     | some bb=>rw [eX] at he;simpa only [fb,G.run] using he
 case index t x i=>
  cases aw:a_ P t with
  | none=>rw [aw] at he;cases he
  | some aS=>
    rw [aw] at he;simp only at he;cases hu:aS.bg<;>rw [hu] at he<;>simp only [G.run] at he
    case string=>
     unfold sV;rw [aw];simp only [hu];simpa only [fb] using he
    all_goals simpa only [fb] using he
 case range t x=>
  unfold GO;cases aw:a_ P t with
  | none=>rw [aw] at he;cases he
  | some aS=>
    rw [aw] at he;simp only at he ⊢;cases hu:aS.bg<;>rw [hu] at he<;>simp only at he ⊢<;>try (cases he;done)
    all_goals simp only [fb,G.run] at he ⊢
    all_goals first
     | exact he
     | (generalize (rx x).aT (eo ch)=q at he ⊢
        cases q<;>exact he)
 case next it b=>
  cases b<;>simpa only [cond_true,cond_false,fb,G.run] using he
 case entry it=>simpa only [fb,G.run] using he
 case mapEntry t m k=>
  unfold Gd;cases aw:a_ P t with
  | none=>rw [aw] at he;cases he
  | some aS=>
    rw [aw] at he;simp only at he ⊢;cases hu:aS.bg<;>rw [hu] at he<;>simp only at he ⊢<;>try (cases he;done)
    rename_i bj e;cases eX:a_ P e with
    | none=>rw [eX] at he;cases he
    | some bb=>
      rw [eX] at he;simp only at he ⊢;cases bn:bb.zero with
      | none=>rw [bn] at he;cases he
      | some z=>
        rw [bn] at he;simp only at he ⊢;cases ag:jA P bj with
        | true=>rw [ag] at he;simpa only [cond_true,fb,G.run] using he
        | false=>
          rw [ag] at he;simp only [cond_false] at he ⊢;cases aR:mh P bj with
          | true=>rw [aR] at he;simpa only [cond_true,fb,G.run] using he
          | false=>rw [aR] at he;cases he
 case entryStore t m st x=>simpa only [fb,G.run] using he
 case lookup t x k ok=>
  unfold F';cases aw:a_ P t with
  | none=>rw [aw] at he;cases he
  | some aS=>
    rw [aw] at he;simp only at he ⊢;cases hu:aS.bg<;>rw [hu] at he<;>simp only at he ⊢<;>try (cases he;done)
    rename_i bj e;cases aH:a_ P bj with
    | none=>rw [aH] at he;cases he
    | some gU=>
      rw [aH] at he;simp only at he ⊢;cases eX:a_ P e with
      | none=>rw [eX] at he;cases he
      | some bb=>
        rw [eX] at he;simp only at he ⊢;cases bn:bb.zero with
        | none=>rw [bn] at he;cases he
        | some z=>
          rw [bn] at he;simp only at he ⊢;cases kF:wV gU.bg with
          | none=>
            rw [kF] at he;simp only at he ⊢;cases aA:k2 gU.bg with
            | true=>rw [aA] at he;cases he
            | false=>
              rw [aA] at he;simp only [cond_false] at he ⊢;cases ag:jA P bj with
              | true=>rw [ag] at he;simpa only [cond_true,fb,G.run] using he
              | false=>
                rw [ag] at he;simp only [cond_false] at he ⊢;cases aR:mh P bj with
                | true=>rw [aR] at he;simpa only [cond_true,fb,G.run] using he
                | false=>rw [aR] at he;cases he
          | some di=>
            rw [kF] at he;obtain ⟨ar,av⟩:=Lm kF;simp only [ar,av,cond_true];simpa only [fb,G.run] using he
 case mapUpdate t m k x=>
  unfold pJ;cases aw:a_ P t with
  | none=>rw [aw] at he;cases he
  | some aS=>
    rw [aw] at he;simp only at he ⊢;cases hu:aS.bg<;>rw [hu] at he<;>simp only at he ⊢<;>try (cases he;done)
    rename_i bj e;cases aH:a_ P bj with
    | none=>rw [aH] at he;cases he
    | some gU=>
      rw [aH] at he;simp only at he ⊢;cases kF:wV gU.bg with
      | none=>
        rw [kF] at he;simp only at he ⊢;cases aA:k2 gU.bg with
        | true=>rw [aA] at he;cases he
        | false=>
          rw [aA] at he;simp only [cond_false] at he ⊢;cases ag:jA P bj with
          | true=>rw [ag] at he;simpa only [cond_true,fb,G.run] using he
          | false=>
            rw [ag] at he;simp only [cond_false] at he ⊢;cases aR:mh P bj with
            | true=>rw [aR] at he;simpa only [cond_true,fb,G.run] using he
            | false=>rw [aR] at he;cases he
      | some di=>
        rw [kF] at he;obtain ⟨ar,av⟩:=Lm kF;simp only [ar,av,cond_true];simpa only [fb,G.run] using he
 case insert t m k x=>
  unfold pJ;cases aw:a_ P t with
  | none=>rw [aw] at he;cases he
  | some aS=>
    rw [aw] at he;simp only at he ⊢;cases hu:aS.bg<;>rw [hu] at he<;>simp only at he ⊢<;>try (cases he;done)
    rename_i bj e;cases aH:a_ P bj with
    | none=>rw [aH] at he;cases he
    | some gU=>
      rw [aH] at he;simp only at he ⊢;cases kF:wV gU.bg with
      | none=>
        rw [kF] at he;simp only at he ⊢;cases aA:k2 gU.bg with
        | true=>rw [aA] at he;cases he
        | false=>
          rw [aA] at he;simp only [cond_false] at he ⊢;cases ag:jA P bj with
          | true=>rw [ag] at he;simpa only [cond_true,fb,G.run] using he
          | false=>
            rw [ag] at he;simp only [cond_false] at he ⊢;cases aR:mh P bj with
            | true=>rw [aR] at he;simpa only [cond_true,fb,G.run] using he
            | false=>rw [aR] at he;cases he
      | some di=>
        rw [kF] at he;obtain ⟨ar,av⟩:=Lm kF;simp only [ar,av,cond_true];simpa only [fb,G.run] using he
 case makeMap t x=>
  unfold zs;cases aw:a_ P t with
  | none=>rw [aw] at he;cases he
  | some aS=>
    rw [aw] at he;simp only at he ⊢;cases ae:Nat.beq (fl aS.bg) 3 with
    | false=>rw [ae] at he;cases he
    | true=>rw [ae] at he;simpa only [cond_true,L5,G.run] using he
 case extract x i=>
  simp only [fb,G.run] at he ⊢;generalize (rx x).aT (eo ch)=q at he ⊢;cases q<;>exact he
 case call c=>exact amw he
end
end
end Go.Proofs.YthemdhlheglhoaaGreatDoor.a7
