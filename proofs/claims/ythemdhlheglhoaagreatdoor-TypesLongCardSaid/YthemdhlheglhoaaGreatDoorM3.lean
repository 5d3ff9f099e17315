/- The abstract machine and its walks (a verified interpreter of the model's code: plain definitions and lemmas, no condition). Printed by a program from longer texts: names made short. -/
import Derived.Test.YthemdhlheglhoaaGreatDoorM2
import Derived.Scope
import Derived.RangeFuncRecord
set_option linter.unusedSectionVars false
set_option linter.unusedSimpArgs false
set_option linter.unusedVariables false
set_option maxHeartbeats 64000000
noncomputable section
namespace Go.Proofs.YthemdhlheglhoaaGreatDoor.a8
section
open Go Go.RowKit
variable [Lay]
theorem Ev {α:Type} (p q:α->Bool):∀(l:List α),(∀x ∈ l,q x=true->p x=true)->(∃x ∈ l,p x=true/\q x=false)->l.countP q<l.countP p
 | [],_,h=>by obtain ⟨x,ak,_⟩:=h;simp at ak
 | a::l,aa,ad=>by
   have hle:l.countP q<=l.countP p:=List.countP_mono_left fun x ak=>aa x (by simp [ak]);obtain ⟨x,ak,af,aC⟩:=ad;simp only [List.mem_cons] at ak;rcases ak with rfl | ak
   . rw [List.countP_cons,List.countP_cons,af,aC];simp;omega
   . have bq:=Ev p q l (fun y aZ=>aa y (by simp [aZ])) ⟨x,ak,af,aC⟩;have a1:=aa a (by simp);rw [List.countP_cons,List.countP_cons];cases afB:q a with
     | true=>rw [a1 afB];simp;omega
     | false=>simp;omega
theorem yb (e:Edge):Region.binds .any e=vB e:=by unfold Region.binds vB;cases e.ground<;>rfl
section
variable {P:Program}
theorem uK {order:List Nat}:∀{bm:List Nat} {k j p:Nat},CS order k bm=true->bm[j]? =some p->order[p]? =some (k+j)
 | [],_,j,p,_,h=>by simp at h
 | q::bm,k,j,p,af,h=>by
   simp only [CS,Bool.and_eq_true] at af;cases j with
   | zero=>
     simp only [List.getElem?_cons_zero,Option.some.injEq] at h;subst h;have aa:=af.1;cases aC:order[q]? with
     | none=>rw [aC] at aa;cases aa
     | some i=>rw [aC] at aa;rw [Nat.beq_eq] at aa;rw [aa];rfl
   | succ j=>
     have:=uK af.2 (show bm[j]? =some p by simpa using h);rw [this];congr 1;omega
theorem nD {ops:Array Oper}:∀{order:List Nat} {p i:Nat} {o:Oper},order[p]? =some i->ops[i]? =some o->(hN ops order)[p]? =some o
 | [],p,i,o,h,_=>by simp at h
 | x::xs,p,i,o,h,a6=>by
   cases p with
   | zero=>
     simp only [List.getElem?_cons_zero,Option.some.injEq] at h;subst h;simp [hN,a6]
   | succ p=>simpa [hN] using nD (show xs[p]? =some i by simpa using h) a6
theorem qo {ops:Array Oper}:∀{order:List Nat},(hN ops order).length=order.length
 | []=>rfl
 | x::xs=>by simp [hN,qo (order:=xs)]
structure Cert (P:Program) (au:Nat) (ops:Array Oper) (calls:Nat->dQ) (es:List e2) (bt:bI) (aW:ah) (c8:bI) (az:ah) (ez:List Nat) (order aF:List Nat) (N M:Nat) (lit:Bool):Prop where
 len:es.length=N
 CC:N<=ops.size
 UI:N<=M
 iz:∀k,k<ops.size->posOf aF k<ops.size/\order[posOf aF k]? =some k
 lq:∀p,p<ops.size->∃i,i<ops.size/\posOf aF i=p
 aW:cn es az 0=aW
 bt:et es c8 0=bt
 step:∀i o,ops[i]? =some o->posOf aF i<N->∃e,es[posOf aF i]? =some e/\(cG P au ops o).run (calls i) e.r e.h=.val e.v (cn es az (posOf aF i+1))/\et es c8 (posOf aF i+1)=(fX o.dst).run e.r e.v
 j5:∀i o,ops[i]? =some o->∃cR,(eT [] ops.toList)[i]? =some cR/\mI i o=true/\(posOf aF i<M->
  ∀k ok,ops[k]? =some ok->posOf aF k<M->∃mk,(eT [] ops.toList)[k]? =some mk/\pv i cR (b7 ops o) o.dst k mk ok (Nat.blt (posOf aF k) (posOf aF i))=true/\(e' P o.op=true->ei P ok=true->posOf aF k<posOf aF i->gi cR k=true\/(lit=true/\lj o=true/\lj ok=true)))
 ends:N ∈ ez
 mem:∀j o,ops[j]? =some o->ei P o=true->posOf aF j ∈ ez
 W0:∀s ∈ ez,(s=ops.size\/(s=N/\M=N))\/∃k o,ops[k]? =some o/\ei P o=true/\s=posOf aF k
 ask:∀j o,ops[j]? =some o->looks o.op=true->e' P o.op=false->posOf aF j<N->∃e,es[posOf aF j]? =some e/\∀s ∈ ez,
  sY P (eT [] ops.toList) ops.toList aF j (((eT [] ops.toList)[j]?).getD 0) s=true->∃c ab,(hi P c/\ht P c)/\(cG P au ops o).run c e.r (cn es az s)=.val e.v ab
 tail:M<ops.size->M=N/\∀k ok mk,ops[k]? =some ok->N<=posOf aF k->(eT [] ops.toList)[k]? =some mk->∀j,j<ops.size->posOf aF j<N->gi mk j=true
 stop:N<ops.size->ops.size<=M->∃i0 iw m0,ops[i0]? =some iw/\posOf aF i0=N/\l4 iw.op=true/\(eT [] ops.toList)[i0]? =some m0/\
  (∀k ok mk,ops[k]? =some ok->N<posOf aF k->(eT [] ops.toList)[k]? =some mk->gi mk i0=true)/\
  (∀k ok,ops[k]? =some ok->hb ok=true->posOf aF k<N->gi m0 k=true)/\∃v ab,(cG P au ops iw).run (calls i0) c8 az=.cP v ab
theorem Uu {o:Oper} (h:l4 o.op=true):e' P o.op=true/\hb o=false:=by
 obtain ⟨dst,op,type,pos,after,guard⟩:=o;cases op<;>simp only [l4] at h<;>try (cases h;done)
 . rename_i c;obtain ⟨callee,args,types⟩:=c;cases callee<;>simp only at h<;>try (cases h;done)
   exact ⟨rfl,rfl⟩
 . exact ⟨rfl,rfl⟩
variable {au:Nat} {ops:Array Oper} {call:dQ} {calls:Nat->dQ} {es:List e2} {bt:bI} {aW:ah} {c8:bI} {az:ah} {ez:List Nat} {order aF:List Nat} {N M:Nat} {lit:Bool}
theorem Cert.xe (C:Cert P au ops calls es bt aW c8 az ez order aF N M lit) {k bg:Nat} (aa:k<ops.size) (ad:bg<ops.size) (he:posOf aF k=posOf aF bg):k=bg:=by have a:=(C.iz k aa).2;have b:=(C.iz bg ad).2;rw [he,b] at a;cases a;rfl
theorem Ri {ops:Array Oper} {aF:List Nat} (az:yj P ops aF=true):∀i o,ops[i]? =some o->∃cR,(eT [] ops.toList)[i]? =some cR/\mI i o=true/\
 ∀k ok,ops[k]? =some ok->∃mk,(eT [] ops.toList)[k]? =some mk/\pv i cR (b7 ops o) o.dst k mk ok (Nat.blt (posOf aF k) (posOf aF i))=true/\(e' P o.op=true->ei P ok=true->posOf aF k<posOf aF i->gi cR k=true):=by
 intro i o ao;unfold yj at az;obtain ⟨cR,aa,ad⟩:=qE az i o (by simpa using ao);simp only [Nat.zero_add,Bool.and_eq_true] at ad;refine ⟨cR,aa,ad.1,fun k ok aH=>?_⟩;obtain ⟨mk,bz,bx⟩:=qE ad.2 k ok (by simpa using aH);simp only [Nat.zero_add,Bool.and_eq_true] at bx;refine ⟨mk,bz,bx.1,fun aP bf aO=>?_⟩;have cU:=bx.2;rw [aP,bf,Bool.true_and,show Nat.blt (posOf aF k) (posOf aF i)=true from by rw [Nat.blt_eq];exact aO] at cU;exact cU
theorem Cert.MB (C:Cert P au ops calls es bt aW c8 az ez order aF N M lit):∀p,p<=N->∀t,t<=top->
 (∃k o e,posOf aF k<p/\ops[k]? =some o/\o.dst=some t/\es[posOf aF k]? =some e/\T.get .bad (aj t) (et es c8 p)=e.v)\/
 ((∀k o,posOf aF k<p->ops[k]? =some o->o.dst≠some t)/\T.get .bad (aj t) (et es c8 p)=T.get .bad (aj t) bt)
 | 0,_,t,av=>.inr ⟨fun k o h=>by omega,by rw [C.bt]⟩
 | p+1,ao,t,av=>by
   obtain ⟨i,aO,j'⟩:=C.lq p (by have:=C.CC;omega);have cz:ops[i]? =some ops[i]:=Array.getElem?_eq_getElem aO;obtain ⟨e,aa,ad,aJ⟩:=C.step i ops[i] cz (by omega);rw [j'] at aa ad aJ;have KQ:et es c8 p=e.r:=by simp [et,aa]
   have dT:=R3 (r:=e.r) (v:=e.v) (kH ad).1 av;rw [aJ,dT];by_cases bb:ops[i].dst=some t
   . rw [if_pos bb];exact .inl ⟨i,_,e,by omega,cz,bb,by rw [j'];exact aa,rfl⟩
   . rw [if_neg bb,<-KQ];rcases Cert.MB C p (by omega) t av with ⟨k,o,cX,ar,aw,aK,bY,ek⟩ | ⟨ar,aw⟩
     . exact .inl ⟨k,o,cX,by omega,aw,aK,bY,ek⟩
     . refine .inr ⟨fun k o aH a6=>?_,aw⟩;by_cases g_:k=i
       . subst g_;rw [cz] at a6;cases a6;exact bb
       . refine ar k o ?_ a6;have iH:=(Array.getElem?_eq_some_iff.1 a6).1;have:posOf aF k≠p:=fun e=>g_ (C.xe iH aO (by rw [e,j']));omega
theorem Cert.Jg (C:Cert P au ops calls es bt aW c8 az ez order aF N M lit):∀p,p<=N->T.get .bad e6 (et es c8 p)=T.get .bad e6 bt
 | 0,_=>by rw [C.bt]
 | p+1,ao=>by
   obtain ⟨i,aO,j'⟩:=C.lq p (by have:=C.CC;omega);have cz:ops[i]? =some ops[i]:=Array.getElem?_eq_getElem aO;obtain ⟨e,aa,ad,aJ⟩:=C.step i ops[i] cz (by omega);rw [j'] at aa ad aJ;have KQ:et es c8 p=e.r:=by simp [et,aa]
   have bb:=(kH ad).1;rw [aJ,<-Cert.Jg C p (by omega),KQ];cases aeA:ops[i].dst with
   | none=>rfl
   | some d=>
     rw [aeA] at bb;simp only [e7,Bool.and_eq_true,Nat.ble_eq] at bb;simp only [fX];rw [T.iq,if_neg (xc bb.2)]
def nameAt (es:List e2) (az:ah) (aF:List Nat) (k:Nat):aQ:=aj (cn es az (posOf aF k)).next
def A1 (es:List e2) (az:ah) (aF:List Nat) (k:Nat):cd:=(cn es az (posOf aF k+1)).get (nameAt es az aF k)
def Made (es:List e2) (az:ah) (aF:List Nat) (k:Nat):Prop:=(cn es az (posOf aF k+1)).next≠(cn es az (posOf aF k)).next
def ki (ops:Array Oper) (es:List e2) (az:ah) (aF:List Nat) (listed:Array Bool) (s k:Nat):Prop:=
 ∃o,ops[k]? =some o/\(hb o=true/\Made es az aF k)/\¬listed.getD k false=true/\posOf aF k<s
structure Holds (ay F:Fr) (es:List e2) (az:ah) (aF:List Nat) (D:Nat->Prop):Prop where
 w:F.w=ay.w
 bF:∀b,(∀k,D k->nameAt es az aF k≠b)->F.er b=ay.er b
 new:∀k,D k->F.er (nameAt es az aF k)=some (A1 es az aF k)/\ay.er (nameAt es az aF k)=none
 inj:∀k bg,D k->D bg->nameAt es az aF k=nameAt es az aF bg->k=bg
theorem Holds.congr {ay F:Fr} {D NT:Nat->Prop} (H:Holds ay F es az aF D) (h:∀k,NT k↔D k):Holds ay F es az aF NT:=
 ⟨H.w,fun b ae=>H.bF b fun k aH=>ae k ((h k).2 aH),fun k aH=>H.new k ((h k).1 aH),fun k bg aH g'=>H.inj k bg ((h k).1 aH) ((h bg).1 g')⟩
theorem Holds.none {ay F:Fr} {D:Nat->Prop} (H:Holds ay F es az aF D) (h:∀k,¬D k):F=ay:=by have:F.er=ay.er:=funext fun b=>H.bF b fun k aH=>absurd aH (h k);cases F;cases ay;have hw:=H.w;simp only at this hw;rw [this,hw]
theorem Cert.advance (C:Cert P au ops calls es bt aW c8 az ez order aF N M lit) {ay:Fr} {listed:Array Bool} {E:Env} {w:World}:∀(d q:Nat),q+d=N->(∀k o,ops[k]? =some o->hb o=true->q<=posOf aF k->¬listed.getD k false=true)->
 ∀F,Holds ay F es az aF (ki ops es az aF listed q)->bd F E (cn es az q) w->
 ∃s fD,s ∈ ez/\q<=s/\s<=N/\(∀k o,ops[k]? =some o->ei P o=true->q<=posOf aF k->s<=posOf aF k)/\Holds ay fD es az aF (ki ops es az aF listed s)/\bd fD E (cn es az s) w
 | 0,q,aC,_,F,H,S=>by
   have:q=N:=by omega
   subst this;exact ⟨q,F,C.ends,Nat.le_refl _,Nat.le_refl _,fun k o _ _ h=>h,H,S⟩
 | d+1,q,aC,ug,F,H,S=>by
   obtain ⟨i,aO,j'⟩:=C.lq q (by have:=C.CC;omega);have cz:ops[i]? =some ops[i]:=Array.getElem?_eq_getElem aO;cases ml:ei P ops[i] with
   | true=>exact ⟨q,F,by rw [<-j'];exact C.mem i _ cz ml,Nat.le_refl _,by omega,fun k o _ _ h=>h,H,S⟩
   | false=>
     obtain ⟨e,aa,ad,aJ⟩:=C.step i ops[i] cz (by omega);rw [j'] at aa ad;have ud:cn es az q=e.h:=by simp [cn,aa]
     have only:∀k o,ops[k]? =some o->posOf aF k=q->k=i:=fun k o aH af=>C.xe (Array.getElem?_eq_some_iff.1 aH).1 aO (by rw [af,j']);have fin:∀fD,Holds ay fD es az aF (ki ops es az aF listed (q+1))->bd fD E (cn es az (q+1)) w->
      ∃s fD,s ∈ ez/\q<=s/\s<=N/\(∀k o,ops[k]? =some o->ei P o=true->q<=posOf aF k->s<=posOf aF k)/\Holds ay fD es az aF (ki ops es az aF listed s)/\bd fD E (cn es az s) w:=by
      intro fD fb gv;obtain ⟨s,rT,g1,g2,g3,g4,g5,g6⟩:=Cert.advance C d (q+1) (by omega) (fun k o aa ad aJ=>ug k o aa ad (by omega)) fD fb gv;refine ⟨s,rT,g1,by omega,g3,fun k o aH aD af=>g4 k o aH aD ?_,g5,g6⟩;by_cases FC:posOf aF k=q
      . have:=only k o aH FC;subst this;rw [cz] at aH;cases aH;rw [ml] at aD;cases aD
      . omega
     have pass:cn es az (q+1)=e.h->(hb ops[i]=true->¬Made es az aF i)->∃s fD,s ∈ ez/\q<=s/\s<=N/\(∀k o,ops[k]? =some o->ei P o=true->q<=posOf aF k->s<=posOf aF k)/\Holds ay fD es az aF (ki ops es az aF listed s)/\bd fD E (cn es az s) w:=by
      intro y7 mr;rw [<-ud] at y7;refine fin F (H.congr fun k=>⟨?_,?_⟩) (by rw [y7];exact S)
      . rintro ⟨o,ar,aw,aK,bY⟩;refine ⟨o,ar,aw,aK,?_⟩;have:posOf aF k≠q:=fun e=>by
         have:=only k o ar e;subst this;rw [cz] at ar;cases ar;exact mr aw.1 aw.2
        omega
      . rintro ⟨o,ar,aw,aK,bY⟩;exact ⟨o,ar,aw,aK,by omega⟩
     cases a1:hb ops[i] with
     | true=>
      rcases Re a1 ad with ⟨dj,bz,bx⟩ | ⟨bz,_⟩
      ·
       have aS:=S.hold dj;have aV:nameAt es az aF i=aj (cn es az q).next:=by unfold nameAt;rw [j']
       have ae:A1 es az aF i=dj:=by unfold A1;rw [aV,j',bz,ud,ah.iE,if_pos rfl]
       rw [ud,<-bz] at aS;have uf:Made es az aF i:=by unfold Made;rw [j',bz,ud];exact Nat.succ_ne_self _
       have ra:¬listed.getD i false=true:=ug i _ cz a1 (by omega);have IZ:∀k,ki ops es az aF listed (q+1) k->k=i\/ki ops es az aF listed q k:=by
        rintro k ⟨o,ar,aw,aK,bY⟩;by_cases FC:posOf aF k=q
        . exact .inl (only k o ar FC)
        . exact .inr ⟨o,ar,aw,aK,by omega⟩
       have fresh:∀b lk,F.er b=some lk->b≠nameAt es az aF i:=by intro b lk q3 heq;obtain ⟨_,_,j,Cf,wS⟩:=S.qt b lk q3;rw [heq,aV] at wS;rw [ud] at Cf wS;have:=fj wS;omega
       have Ts:∀b,b≠nameAt es az aF i->(F.hold (aj e.h.next) dj).er b=F.er b:=by intro b Sn;rw [aV,ud] at Sn;simp only [Fr.hold,if_neg Sn]
       have ZI:(F.hold (aj e.h.next) dj).er (nameAt es az aF i)=some dj:=by rw [aV,ud];simp only [Fr.hold,if_true]
       have ne:∀k,ki ops es az aF listed q k->nameAt es az aF k≠nameAt es az aF i:=fun k aH=>fresh _ _ (H.new k aH).1;refine fin (F.hold (aj e.h.next) dj) ⟨H.w,fun b q3=>?_,fun k aH=>?_,fun k bg aH g' he=>?_⟩ aS
       . have nh:b≠nameAt es az aF i:=fun e=>q3 i ⟨_,cz,⟨a1,uf⟩,ra,by omega⟩ e.symm;rw [Ts b nh];exact H.bF b fun k aH=>q3 k (by obtain ⟨o,ar,aw,aK,bY⟩:=aH;exact ⟨o,ar,aw,aK,by omega⟩)
       . rcases IZ k aH with rfl | aH
         . refine ⟨by rw [ZI,ae],?_⟩;cases af:ay.er (nameAt es az aF k) with
           | none=>rfl
           | some lk=>
             exfalso;have:=H.bF (nameAt es az aF k) fun bg g'=>ne bg g';rw [af] at this;exact fresh _ _ this rfl
         . rw [Ts _ (ne k aH)];exact H.new k aH
       . rcases IZ k aH with rfl | aH<;>rcases IZ bg g' with rfl | g'
         . rfl
         . exact absurd he.symm (ne bg g')
         . exact absurd he (ne k aH)
         . exact H.inj k bg aH g' he
      . refine pass bz fun _ hm=>hm ?_;rw [j',bz,ud]
     | false=>
       have ck:e' P ops[i].op=false:=by unfold ei at ml;rw [a1] at ml;simpa using ml
       exact pass (vJ ck ad).1 fun h=>by rw [a1] at h;cases h
structure qF (P:Program) (ay:Fr) (au:Nat) (ops:Array Oper) (es:List e2) (bt:bI) (az:ah) (ez aF:List Nat) (fl:Env) (N:Nat) (D:List Deferred) (listed:Array Bool) (a:Act) (w:World):Prop where
 sU:listed.size=ops.size
 size:a.tmps.size=au
 defers:a.defers=D
 tG:∀k,listed.getD k false=true->posOf aF k<N
 down:qH ops fun k=>listed.getD k false=true
 main:∃E s F,fl.le E/\s ∈ ez/\s<=N/\(∀k o,ops[k]? =some o->ei P o=true->(listed.getD k false=true↔posOf aF k<s))/\
  (∀k o,ops[k]? =some o->hb o=true->listed.getD k false=true->posOf aF k<s)/\Holds ay F es az aF (ki ops es az aF listed s)/\bd F E (cn es az s) w/\
  ∀t,t<=top->(∃k o e,listed.getD k false=true/\ops[k]? =some o/\o.dst=some t/\es[posOf aF k]? =some e/\Rel E e.v (a.tmps.getD t undef))\/
   ((∀k o,listed.getD k false=true->ops[k]? =some o->o.dst≠some t)/\Rel E (T.get .bad (aj t) bt) (a.tmps.getD t undef))
theorem tW {l:Array Bool} {i:Nat}:l.getD i false=true↔l[i]? =some true:=by
 rw [Array.getD_eq_getD_getElem?];cases l[i]? with
 | none=>simp
 | some b=>cases b<;>simp
theorem gb {l:Array Bool} {i k:Nat} (ao:i<l.size):(l.setIfInBounds i true).getD k false=true↔(k=i\/l.getD k false=true):=by
 rw [tW,tW,Array.getElem?_setIfInBounds];by_cases h:i=k
 . subst h;simp [ao]
 . have:¬k=i:=fun e=>h e.symm;simp [h,this]
theorem EG {r:bI} {t:Nat} (av:t<=top):∀{l:List Oper},T.get .bad (aj t) (o5 r l)=.bad\/(T.get .bad (aj t) (o5 r l)=T.get .bad (aj t) r/\∀o ∈ l,o.dst≠some t)
 | []=>.inr ⟨rfl,fun o a6=>by simp at a6⟩
 | o::os=>by
   simp only [o5];cases bb:o.dst with
   | none=>
     simp only;rcases EG (r:=r) av (l:=os) with h | ⟨aa,ad⟩
     . exact .inl h
     . exact .inr ⟨aa,fun cj hp=>by
        rcases List.mem_cons.1 hp with rfl | hp
        . rw [bb];simp
        . exact ad cj hp⟩
   | some d=>
     simp only;cases ae:Nat.ble d top with
     | true=>
       simp only [cond_true];rw [T.iq];by_cases wh:d=t
       . subst wh;rw [if_pos rfl];exact .inl rfl
       . rw [if_neg (fun e=>wh (fj e))];rcases EG (r:=r) av (l:=os) with h | ⟨aa,ad⟩
         . exact .inl h
         . exact .inr ⟨aa,fun cj hp=>by
            rcases List.mem_cons.1 hp with rfl | hp
            . rw [bb];simpa using wh
            . exact ad cj hp⟩
     | false=>
       simp only [cond_false];have wh:d≠t:=fun e=>by subst e;rw [<-Nat.ble_eq] at av;rw [av] at ae;cases ae
       rcases EG (r:=r) av (l:=os) with h | ⟨aa,ad⟩
       . exact .inl h
       . exact .inr ⟨aa,fun cj hp=>by
          rcases List.mem_cons.1 hp with rfl | hp
          . rw [bb];simpa using wh
          . exact ad cj hp⟩
theorem EF {r:bI}:∀{l:List Oper},T.get .bad e6 (o5 r l)=T.get .bad e6 r
 | []=>rfl
 | o::os=>by
   simp only [o5];cases bb:o.dst with
   | none=>exact EF
   | some d=>
     simp only;cases ae:Nat.ble d top with
     | true=>
       simp only [cond_true];rw [T.iq,if_neg (xc (Nat.le_of_ble_eq_true ae))];exact EF
     | false=>exact EF
theorem Rl {rd:Option Nat} {D:List Deferred} {ay:Fr} (bJ:eO P) (cY:∀i,hi P (calls i)) (dI:∀i,ht P (calls i)) (C:Cert P au ops calls es bt aW c8 az ez order aF N M lit) {fl:Env} {listed:Array Bool} {a:Act} {w:World} (I:qF P ay au ops es bt az ez aF fl N D listed a w)
 {i:Nat} (ao:i ∈ Region.ready .any ops listed) (aeY:posOf aF i<M) (wu:lit=true->∀o k ok,ops[i]? =some o->lj o=true->ops[k]? =some ok->lj ok=true->posOf aF k<posOf aF i->listed.getD k false=true) {Q:Exit->Act->World->Prop} {K:Act->World->Prop} (dO:∀bw an,qF P ay au ops es bt az ez aF fl N D (listed.setIfInBounds i true) bw an->K bw an)
 (cM:∀ax bw an x v ab,fl.le ax->N<ops.size->ops.size<=M->(∃i0 iw,ops[i0]? =some iw/\posOf aF i0=N/\(cG P au ops iw).run (calls i0) c8 az=.cP v ab)->RegRel0 ax au (o5 bt ops.toList) bw->bw.defers=D->Rel ax v x->bd ay ax ab an->Q (.panic (qq x)) bw an):wpOpIn (cw rd) 0 P ops Q i K a w:=by
 rw [mem_ready] at ao;obtain ⟨E,s,F,ho,aS,FI,mo,ec,kq,ri,wF⟩:=I.main;obtain ⟨ug,o,cz,wi⟩:=ao;have fy:i<ops.size:=(Array.getElem?_eq_some_iff.1 cz).1;have uh:¬listed.getD i false=true:=by rw [tW];intro h;rw [Array.getD_eq_getD_getElem?,h] at ug;simp at ug
 have SL:=Cu I.down ops.toList [] (fun j=>by simp) (fun k m j aH=>by simp at aH);have yE:qH ops fun k=>listed.getD k false=true\/k=i:=by
  intro k ok e aH bK he ae;rcases aH with aH | rfl
  . exact .inl (I.down k ok e aH bK he ae)
  . rw [cz] at bK;cases bK;exact .inl (wi e (Array.mem_toList_iff.1 he) (by rw [yb];exact ae))
 have afd:=Cu yE ops.toList [] (fun j=>by simp) (fun k m j aH=>by simp at aH);obtain ⟨cR,mq,iI,FB⟩:=C.j5 i o cz;have FB:=FB aeY;have JO:=C.UI;have Bs:∀k,k≠i->gi cR k=true->listed.getD k false=true:=by
  intro k aH ae;rcases afd i cR k mq ae (.inr rfl) with h | h
  . exact h
  . exact absurd h aH
 have jo:=(C.iz i fy).1;have afx:posOf aF i<=N:=by
  rcases Nat.lt_or_ge N (posOf aF i) with aeU | hle
  . exfalso;have E5:ops.size<=M:=by
     rcases Nat.lt_or_ge M ops.size with h | h
     . have:=(C.tail h).1;omega
     . exact h
    obtain ⟨i0,iw,m0,b6,z2,z3,z4,z5,_⟩:=C.stop (by omega) E5;have ae:=z5 i o cR cz aeU mq;have aa:=Bs i0 (fun e=>by subst e;omega) ae;have:=I.tG i0 aa;omega
  . exact hle
 have uniq:∀(k bg:Nat) (ok iQ:Oper) (t:Nat),ops[k]? =some ok->ops[bg]? =some iQ->posOf aF k<M->posOf aF bg<M->ok.dst=some t->iQ.dst=some t->k=bg:=by
  intro k bg ok iQ t aa ad cb ca aJ bG;obtain ⟨mk,_,_,af⟩:=C.j5 k ok aa;obtain ⟨mk',_,hZ,_⟩:=af cb bg iQ ad ca;unfold pv at hZ;rw [im] at hZ;by_cases kr:k=bg
  . exact kr
  . rw [if_neg kr,bG,aJ] at hZ;simp at hZ
 have VV:j2 (b7 ops o)=true->∀t ∈ b7 ops o,Rel E (T.get .bad (aj t) (et es c8 (posOf aF i))) (a.tmps.getD t undef):=by
  intro qa t av;have y_:t<=top:=by have:=List.all_eq_true.1 qa t av;exact Nat.le_of_ble_eq_true this
  have Vc:∀(k:Nat) (ok:Oper),k≠i->posOf aF k<M->ops[k]? =some ok->ok.dst=some t->∃mk,(eT [] ops.toList)[k]? =some mk/\(posOf aF k<posOf aF i->gi cR k=true)/\(¬posOf aF k<posOf aF i->gi mk i=true):=by
   intro k ok aH Kl bK bb;obtain ⟨mk,ar,aw,_⟩:=FB k ok bK Kl;refine ⟨mk,ar,?_⟩;unfold pv at aw;rw [im,if_neg (fun e=>aH e.symm),bb] at aw;simp only [Bool.and_eq_true] at aw;have aK:=aw.1;rw [show (b7 ops o).contains t=true from by simpa using av] at aK;simp only [cond_true] at aK;refine ⟨fun aO=>?_,fun jl=>?_⟩
   . rw [show Nat.blt (posOf aF k) (posOf aF i)=true from by rw [Nat.blt_eq];exact aO] at aK;exact aK
   . rw [show Nat.blt (posOf aF k) (posOf aF i)=false from by rw [<-Bool.not_eq_true,Nat.blt_eq];exact jl] at aK;exact aK
  rcases C.MB (posOf aF i) afx t y_ with ⟨k,ok,vL,ar,aw,aK,bY,ek⟩ | ⟨ar,aw⟩
  . obtain ⟨mk,_,db,_⟩:=Vc k ok (fun e=>by subst e;omega) (by omega) aw aK;have Fu:=Bs k (fun e=>by subst e;omega) (db ar);rcases wF t y_ with ⟨bg,iQ,Jm,bW,bV,b8,gH,i_⟩ | ⟨bW,_⟩
    . have:=uniq k bg ok iQ t aw bV (by omega) (by have:=I.tG bg bW;omega) aK b8;subst this;rw [bY] at gH;cases gH;rw [ek];exact i_
    . exact absurd aK (bW k ok Fu aw)
  . rcases wF t y_ with ⟨bg,iQ,Jm,bW,bV,b8,gH,i_⟩ | ⟨_,bV⟩
    . have g_:bg≠i:=fun e=>uh (e ▸ bW);obtain ⟨mk,m1,_,dp⟩:=Vc bg iQ g_ (by have:=I.tG bg bW;omega) bV b8;by_cases aO:posOf aF bg<posOf aF i
      . exact absurd b8 (ar bg iQ aO bV)
      . exact absurd (SL bg mk i m1 (dp aO) bW) uh
    . rw [aw];exact bV
 have level:e' P o.op=true->s<=posOf aF i->s=posOf aF i/\hb o=false:=by
  intro lM hle;rcases C.W0 s aS with (h | ⟨h,E4⟩) | ⟨k,ok,bz,bx,cU⟩
  . omega
  . omega
  . have SR:¬listed.getD k false=true:=fun h=>by have:=(mo k ok bz bx).1 h;omega
    have iH:=(Array.getElem?_eq_some_iff.1 bz).1;by_cases g_:k=i
    . subst g_;rw [cz] at bz;cases bz;refine ⟨cU,?_⟩;unfold ei at bx;simpa [lM] using bx
    . have aO:posOf aF k<posOf aF i:=by
       have:posOf aF k≠posOf aF i:=fun e=>g_ (C.xe iH fy e);omega
      obtain ⟨mk,_,_,aK⟩:=FB k ok bz (by omega);rcases aK lM bx aO with h | ⟨g1,g2,g3⟩
      . exact absurd (Bs k g_ h) SR
      . exact absurd (wu g1 o k ok cz g2 bz g3 aO) SR
 rcases Nat.lt_or_ge (posOf aF i) N with Ku | apL
 case inr=>
  have jT:posOf aF i=N:=by omega
  have E5:ops.size<=M:=by
   rcases Nat.lt_or_ge M ops.size with h | h
   . have:=(C.tail h).1;omega
   . exact h
  obtain ⟨i0,iw,m0,b6,z2,z3,z4,z5,Dm,v,ab,NG⟩:=C.stop (by omega) E5;have ae0:i0=i:=C.xe (Array.getElem?_eq_some_iff.1 b6).1 fy (by rw [z2,jT]);subst ae0;rw [cz] at b6;cases b6;rw [mq] at z4;cases z4;obtain ⟨lM,afj⟩:=Uu z3;have yI:ei P o=true:=by unfold ei;rw [lM,afj];rfl
  have KV:s<=posOf aF i0:=by
   rcases Nat.lt_or_ge (posOf aF i0) s with h | h
   . exact absurd ((mo i0 o cz yI).2 h) uh
   . exact h
  have y8:=(level lM KV).1;have od:F=ay:=kq.none fun k aH=>by
   obtain ⟨ok,ar,aw,aK,bY⟩:=aH;have g_:k≠i0:=fun e=>by subst e;omega
   exact aK (Bs k g_ (Dm k ok ar aw.1 (by omega)))
  subst od;have dE:es[N]? =none:=List.getElem?_eq_none (by rw [C.len];exact Nat.le_refl _);have kP:=VV (Rb NG).2;rw [jT] at kP;simp only [et,dE] at kP;rw [y8,jT] at ri;simp only [cn,dE] at ri;refine acm bJ (cY i0) (dI i0) cz NG z3 I.size kP ri fun ax x an ar aw aK=>cM ax a an x v ab (ho.trans ar) (by omega) E5 ⟨i0,o,cz,jT,NG⟩ ⟨I.size,fun t av=>?_⟩ I.defers aw aK;rcases EG (r:=bt) av (l:=ops.toList) with h | ⟨aa,ad⟩
  . rw [h];simp [Rel]
  . rw [aa];rcases wF t av with ⟨k,ok,vL,bW,bV,b8,gH,i_⟩ | ⟨bW,bV⟩
    . exact absurd b8 (ad ok (by rw [<-Array.getElem?_toList] at bV;exact List.mem_of_getElem? bV))
    . exact Rel.mono ar _ _ bV
 obtain ⟨e,o9,cZ,apW⟩:=C.step i o cz Ku;have gC:=kH cZ;have eR:et es c8 (posOf aF i)=e.r:=by simp [et,o9]
 have jm:cn es az (posOf aF i)=e.h:=by simp [cn,o9]
 have reads:=VV gC.2;rw [eR] at reads;have gE:i<listed.size:=by rw [I.sU];exact fy
 have after:∀(hO:Nat) (fD:Fr) (ax:Env) (x:Value) (an:World),hO ∈ ez->hO<=N->(∀k ok,ops[k]? =some ok->ei P ok=true->((k=i\/listed.getD k false=true)↔posOf aF k<hO))->
  (∀k ok,ops[k]? =some ok->hb ok=true->(k=i\/listed.getD k false=true)->posOf aF k<hO)->
  Holds ay fD es az aF (ki ops es az aF (listed.setIfInBounds i true) hO)->E.le ax->Rel ax e.v x->bd fD ax (cn es az hO) an->
  qF P ay au ops es bt az ez aF fl N D (listed.setIfInBounds i true) (a.put o.dst x) an:=by
  intro hO fD ax x an iJ afS fq aed aeV hle ak afQ;refine ⟨by simp [I.sU],by cases h:o.dst<;>simp [Act.put,I.size],by cases h:o.dst<;>simp [Act.put,I.defers],fun k aH=>by
   rcases (gb gE).1 aH with rfl | aH
   . exact Ku
   . exact I.tG k aH,?_,ax,hO,fD,ho.trans hle,iJ,afS,fun k ok aa ad=>by rw [gb gE];exact fq k ok aa ad,
   fun k ok aa ad aJ=>aed k ok aa ad ((gb gE).1 aJ),aeV,afQ,fun t av=>?_⟩
  . intro k ok cX aH bK eQ ae;rw [gb gE] at aH ⊢;rcases yE k ok cX aH.symm bK eQ ae with h | h
    . exact .inr h
    . exact .inl h
  . by_cases bb:o.dst=some t
    . refine .inl ⟨i,o,e,by rw [gb gE];exact .inl rfl,cz,bb,o9,?_⟩;have aO:t<a.tmps.size:=by
       have:=gC.1;rw [bb] at this;simp only [e7,Bool.and_eq_true,Nat.blt_eq] at this;rw [I.size];exact this.1
      rw [bb];simp only [Act.put];rw [Array.getD_eq_getD_getElem?,Array.getElem?_setIfInBounds,if_pos rfl,if_pos aO];exact ak
    . have dT:(a.put o.dst x).tmps.getD t undef=a.tmps.getD t undef:=by
       cases afq:o.dst with
       | none=>rfl
       | some d=>
         simp only [Act.put];rw [Array.getD_eq_getD_getElem?,Array.getD_eq_getD_getElem?,Array.getElem?_setIfInBounds,if_neg (fun e=>bb (by rw [afq,e]))]
      rw [dT];rcases wF t av with ⟨k,ok,vL,bW,bV,b8,gH,i_⟩ | ⟨bW,bV⟩
      . exact .inl ⟨k,ok,vL,by rw [gb gE];exact .inr bW,bV,b8,gH,Rel.mono hle _ _ i_⟩
      . refine .inr ⟨fun k ok aH bK=>?_,Rel.mono hle _ _ bV⟩;rw [gb gE] at aH;rcases aH with rfl | aH
        . rw [cz] at bK;cases bK;exact bb
        . exact bW k ok aH bK
 have J8:¬(hb o=true/\Made es az aF i)->∀hO k,ki ops es az aF (listed.setIfInBounds i true) hO k↔ki ops es az aF listed hO k:=by
  intro a1 hO k;constructor
  . rintro ⟨ok,ar,aw,aK,bY⟩;exact ⟨ok,ar,aw,fun h=>aK ((gb gE).2 (.inr h)),bY⟩
  . rintro ⟨ok,ar,aw,aK,bY⟩;refine ⟨ok,ar,aw,fun h=>?_,bY⟩;rcases (gb gE).1 h with rfl | h
    . rw [cz] at ar;cases ar;exact a1 aw
    . exact aK h
 cases lM:e' P o.op with
 | true=>
   cases a1:hb o with
   | true=>
     have aO:posOf aF i<s:=by
      rcases Nat.lt_or_ge (posOf aF i) s with h | h
      . exact h
      . have:=(level lM h).2;rw [a1] at this;cases this
     by_cases hm:Made es az aF i
     case neg=>
      have KS:(cG P au ops o).run (calls i) e.r (cn es az s)=.val e.v (cn es az s):=by
       rcases Re a1 cZ with ⟨dj,bz,_⟩ | ⟨_,bz⟩
       . exact absurd (show Made es az aF i from by unfold Made;rw [bz,jm];exact Nat.succ_ne_self _) hm
       . exact bz _
      refine qS bJ (cY i) (dI i) cz KS I.size reads ri fun ax x an ar aw aK=>dO _ _ (after s F ax x an aS FI (fun k ok bK jR=>?_) (fun k ok bK p2 aH=>?_) (kq.congr fun k=>J8 (fun h=>hm h.2) s k) ar aw aK)
      . constructor
        . rintro (rfl | h)
          . rw [cz] at bK;cases bK;unfold ei at jR;rw [a1] at jR;simp at jR
          . exact (mo k ok bK jR).1 h
        . intro h;exact .inr ((mo k ok bK jR).2 h)
      . rcases aH with rfl | aH
        . exact aO
        . exact ec k ok bK p2 aH
     have lf:ki ops es az aF listed s i:=⟨o,cz,⟨a1,hm⟩,uh,aO⟩;have Kw:(cn es az (posOf aF i+1)).next≠e.h.next:=by rw [<-jm];exact hm
     have mr:nameAt es az aF i=aj e.h.next:=by unfold nameAt;rw [jm]
     have mv:=(kq.new i lf).1;have zc:=(kq.new i lf).2;have kp:A1 es az aF i=(cn es az (posOf aF i+1)).get (aj e.h.next):=by unfold A1;rw [mr]
     rw [mr,kp] at mv;refine acj cz a1 cZ I.size reads ri Kw mv fun ax x an ar aw aK=>dO _ _ (after s (F.free (aj e.h.next)) ax x an aS FI (fun k ok bK jR=>?_) (fun k ok bK p2 aH=>?_) ?_ ar aw aK)
     . constructor
       . rintro (rfl | h)
         . rw [cz] at bK;cases bK;unfold ei at jR;rw [a1] at jR;simp at jR
         . exact (mo k ok bK jR).1 h
       . intro h;exact .inr ((mo k ok bK jR).2 h)
     . rcases aH with rfl | aH
       . exact aO
       . exact ec k ok bK p2 aH
     . have sub:∀k,ki ops es az aF (listed.setIfInBounds i true) s k->ki ops es az aF listed s k/\k≠i:=by
        rintro k ⟨ok,ar,aw,aK,bY⟩;refine ⟨⟨ok,ar,aw,fun h=>aK ((gb gE).2 (.inr h)),bY⟩,fun e=>aK ((gb gE).2 (.inl e))⟩
       refine ⟨kq.w,fun b ae=>?_,fun k aH=>?_,fun k bg aH g'=>kq.inj k bg (sub k aH).1 (sub bg g').1⟩
       . by_cases nh:b=aj e.h.next
         . subst nh;simp only [Fr.free,if_true];rw [<-mr,zc]
         . simp only [Fr.free,if_neg nh];refine kq.bF b fun k aH=>?_;by_cases g_:k=i
           . subst g_;rw [mr];exact fun e=>nh e.symm
           . obtain ⟨ok,ar,aw,aK,bY⟩:=aH;refine ae k ⟨ok,ar,aw,fun h=>?_,bY⟩;rcases (gb gE).1 h with h | h
             . exact g_ h
             . exact aK h
       . obtain ⟨SF,g_⟩:=sub k aH;have ck:nameAt es az aF k≠aj e.h.next:=fun e=>g_ (kq.inj k i SF lf (by rw [e,mr]))
         simp only [Fr.free,if_neg ck];exact kq.new k SF
   | false=>
     have yI:ei P o=true:=by unfold ei;rw [lM,a1];rfl
     have KV:s<=posOf aF i:=by
      rcases Nat.lt_or_ge (posOf aF i) s with h | h
      . exact absurd ((mo i o cz yI).2 h) uh
      . exact h
     have y8:=(level lM KV).1;rw [<-jm,<-y8] at cZ;refine qS bJ (cY i) (dI i) cz cZ I.size reads ri fun ax x an ar aw aK=>?_;rw [y8] at aK;have afb:∀k ok,ops[k]? =some ok->hb ok=true->posOf aF i+1<=posOf aF k->¬(listed.setIfInBounds i true).getD k false=true:=by
      intro k ok bK p2 af h;rcases (gb gE).1 h with rfl | h
      . omega
      . have:=ec k ok bK p2 h;omega
     have aeX:Holds ay F es az aF (ki ops es az aF (listed.setIfInBounds i true) (posOf aF i+1)):=by
      refine kq.congr fun k=>?_;rw [J8 (fun h=>by rw [a1] at h;cases h.1)];constructor
      . rintro ⟨ok,b6,z2,z3,z4⟩;refine ⟨ok,b6,z2,z3,?_⟩;have iH:=(Array.getElem?_eq_some_iff.1 b6).1;have:posOf aF k≠posOf aF i:=fun e=>by
         have:=C.xe iH fy e;subst this;rw [cz] at b6;cases b6;rw [a1] at z2;cases z2.1
        omega
      . rintro ⟨ok,b6,z2,z3,z4⟩;exact ⟨ok,b6,z2,z3,by omega⟩
     obtain ⟨hO,fD,g1,g2,g3,g4,g5,g6⟩:=C.advance (N - (posOf aF i+1)) (posOf aF i+1) (by omega) afb F aeX aK;refine dO _ _ (after hO fD ax x an g1 g3 (fun k ok bK jR=>?_) (fun k ok bK p2 aH=>?_) g5 ar aw g6)
     . have iH:=(Array.getElem?_eq_some_iff.1 bK).1;constructor
       . rintro (rfl | h)
         . omega
         . have:=(mo k ok bK jR).1 h;omega
       . intro h;by_cases g_:k=i
         . exact .inl g_
         . refine .inr ((mo k ok bK jR).2 ?_);rcases Nat.lt_or_ge (posOf aF k) s with bl | bl
           . exact bl
           . have ck:posOf aF k≠posOf aF i:=fun e=>g_ (C.xe iH fy e);have:=g4 k ok bK jR (by omega);omega
     . rcases aH with rfl | aH
       . omega
       . have:=ec k ok bK p2 aH;omega
 | false=>
   have a1:hb o=false:=by
    cases h:hb o with
    | false=>rfl
    | true=>rw [agK h] at lM;cases lM
   obtain ⟨c,aD,KS⟩:∃c,(hi P c/\ht P c)/\(cG P au ops o).run c e.r (cn es az s)=.val e.v (cn es az s):=by
    cases ey:looks o.op with
    | false=>exact ⟨_,⟨cY i,dI i⟩,(vJ lM cZ).2 ey _⟩
    | true=>
      obtain ⟨cX,ar,aw⟩:=C.ask i o cz ey lM Ku;rw [o9] at ar;cases ar;obtain ⟨c,ab,aD,aK⟩:=aw s aS (NH (by rw [LG];simp) fun k mk ok aa ad=>by
       simp only [Nat.zero_add];have bK:ops[k]? =some ok:=by simpa using ad
       cases wx:ei P ok with
       | false=>rfl
       | true=>
         simp only [cond_true];cases fU:Nat.blt (posOf aF k) s with
         | true=>
           rw [Nat.blt_eq] at fU;simp only [cond_true,Bool.not_eq_true'];cases ae:gi mk i with
           | false=>rfl
           | true=>exact absurd (SL k mk i aa ae ((mo k ok bK wx).2 fU)) uh
         | false=>
           have ae':¬posOf aF k<s:=by rw [<-Nat.blt_eq,fU];simp
           simp only [cond_false,Bool.not_eq_true',mq,Option.getD_some];cases ae:gi cR k with
           | false=>rfl
           | true=>
             by_cases g_:k=i
             . subst g_;rw [cz] at bK;cases bK;unfold ei at wx;rw [lM] at wx;cases wx
             . exact absurd ((mo k ok bK wx).1 (Bs k g_ ae)) ae')
      rw [(vJ lM aK).1] at aK;exact ⟨c,aD,aK⟩
   refine qS bJ aD.1 aD.2 cz KS I.size reads ri fun ax x an ar aw aK=>dO _ _ (after s F ax x an aS FI (fun k ok bK jR=>?_) (fun k ok bK p2 aH=>?_) (kq.congr fun k=>J8 (fun h=>by rw [a1] at h;cases h.1) s k) ar aw aK)
   . constructor
     . rintro (rfl | h)
       . rw [cz] at bK;cases bK;unfold ei at jR;rw [lM] at jR;cases jR
       . exact (mo k ok bK jR).1 h
     . intro h;exact .inr ((mo k ok bK jR).2 h)
   . rcases aH with rfl | aH
     . rw [cz] at bK;cases bK;rw [a1] at p2;cases p2
     . exact ec k ok bK p2 aH
theorem Ra {D:List Deferred} {ay:Fr} (C:Cert P au ops calls es bt aW c8 az ez order aF N M lit) {fl:Env} (JO:N<=M) {listed:Array Bool} {a:Act} {w:World} (I:qF P ay au ops es bt az ez aF fl N D listed a w)
 (ec:∀k,k<ops.size->posOf aF k<N->listed.getD k false=true):∃ax,fl.le ax/\RegRel0 ax au c8 a/\a.defers=D/\bd ay ax az w:=by
 obtain ⟨E,s,F,ho,aS,FI,mo,_,kq,ri,wF⟩:=I.main;have dE:es[N]? =none:=List.getElem?_eq_none (by rw [C.len];exact Nat.le_refl _);have q8:cn es az N=az:=by simp [cn,dE]
 have S4:et es c8 N=c8:=by simp [et,dE]
 have y8:s=N:=by
  rcases C.W0 s aS with (h | ⟨h,_⟩) | ⟨k,ok,bz,bx,cU⟩
  . have:=C.CC;omega
  . exact h
  . rcases Nat.lt_or_ge s N with aO | jl
    . have:=(mo k ok bz bx).1 (ec k (Array.getElem?_eq_some_iff.1 bz).1 (by omega));omega
    . omega
 subst y8;have od:F=ay:=kq.none fun k aH=>by obtain ⟨ok,ar,aw,aK,bY⟩:=aH;exact aK (ec k (Array.getElem?_eq_some_iff.1 ar).1 bY)
 subst od;rw [q8] at ri;have E4:∀k,posOf aF k<s->posOf aF k<M:=fun k h=>by omega
 refine ⟨E,ho,⟨I.size,fun t av=>?_⟩,I.defers,ri⟩;have af3:∀(k bg:Nat) (ok iQ:Oper),ops[k]? =some ok->ops[bg]? =some iQ->posOf aF k<s->posOf aF bg<s->ok.dst=some t->iQ.dst=some t->k=bg:=by
  intro k bg ok iQ aa ad cb ca aJ bG;obtain ⟨mk,_,_,af⟩:=C.j5 k ok aa;obtain ⟨mk',_,hZ,_⟩:=af (E4 k cb) bg iQ ad (E4 bg ca);unfold pv at hZ;rw [im] at hZ;by_cases kr:k=bg
  . exact kr
  . rw [if_neg kr,bG,aJ] at hZ;simp at hZ
 rcases C.MB s (Nat.le_refl _) t av with ⟨k,ok,vL,ar,aw,aK,bY,ek⟩ | ⟨ar,aw⟩
 . rw [S4] at ek;rcases wF t av with ⟨bg,iQ,Jm,bW,bV,b8,gH,i_⟩ | ⟨bW,_⟩
   . have:=af3 k bg ok iQ aw bV ar (I.tG bg bW) aK b8;subst this;rw [bY] at gH;cases gH;rw [ek];exact i_
   . exact absurd aK (bW k ok (ec k (Array.getElem?_eq_some_iff.1 aw).1 ar) aw)
 . rw [S4] at aw;rcases wF t av with ⟨bg,iQ,Jm,bW,bV,b8,gH,i_⟩ | ⟨_,bV⟩
   . exact absurd b8 (ar bg iQ (I.tG bg bW) bV)
   . rw [aw];exact bV
theorem Rk {rd:Option Nat} {D:List Deferred} {ay:Fr} (bJ:eO P) (cY:∀i,hi P (calls i)) (dI:∀i,ht P (calls i)) (C:Cert P au ops calls es bt aW c8 az ez order aF N M false) {fl:Env} {Q:Exit->Act->World->Prop}
 (cM:N=ops.size->∀ax bw an,fl.le ax->RegRel0 ax au c8 bw->bw.defers=D->bd ay ax az an->Q .normal bw an)
 (iF:∀ax bw an x v ab,fl.le ax->N<ops.size->ops.size<=M->(∃i0 iw,ops[i0]? =some iw/\posOf aF i0=N/\(cG P au ops iw).run (calls i0) c8 az=.cP v ab)->RegRel0 ax au (o5 bt ops.toList) bw->bw.defers=D->Rel ax v x->bd ay ax ab an->Q (.panic (qq x)) bw an)
 (dK:M<ops.size->∀(fuel:Nat) (listed:Array Bool) ax bw an,(List.range ops.size).countP (fun i=>!listed.getD i false)<=fuel->listed.size=ops.size->qH ops (fun k=>listed.getD k false=true)->(∀k,k<ops.size->(listed.getD k false=true↔posOf aF k<N))->
   fl.le ax->RegRel0 ax au c8 bw->bw.defers=D->bd ay ax az an->wpAnyIn (cw rd) 0 P .any ops Q fuel listed bw an):∀(fuel:Nat) (listed:Array Bool) (a:Act) (w:World),(List.range ops.size).countP (fun i=>!listed.getD i false)<=fuel->
 qF P ay au ops es bt az ez aF fl N D listed a w->wpAnyIn (cw rd) 0 P .any ops Q fuel listed a w:=by
 have done:∀(listed:Array Bool) (a:Act) (w:World),qF P ay au ops es bt az ez aF fl N D listed a w->Region.ready .any ops listed=[]->∀i,i<ops.size->listed.getD i false=true:=by
  intro listed a w I aE i
  induction i using Nat.strongRecOn with
  | _ i bq=>
    intro ao;cases gE:listed.getD i false with
    | true=>rfl
    | false=>
      exfalso;have cz:ops[i]? =some ops[i]:=Array.getElem?_eq_getElem ao;obtain ⟨cR,_,iI,_⟩:=C.j5 i _ cz;have:i ∈ Region.ready .any ops listed:=by
       rw [mem_ready];refine ⟨?_,ops[i],cz,fun e he ae=>?_⟩
       . have cq:i<listed.size:=by rw [I.sU];exact ao
         rw [Array.getD_eq_getD_getElem?,Array.getElem?_eq_getElem cq] at gE ⊢;exact gE
       . have aa:=List.all_eq_true.1 iI e (Array.mem_toList_iff.2 he);rw [yb] at ae;rw [ae] at aa;simp only [Bool.not_true,Bool.false_or,Nat.blt_eq] at aa;exact bq e.on aa (by omega)
      rw [aE] at this;simp at this
 have JO:=C.UI;have full:∀(listed:Array Bool) (a:Act) (w:World),qF P ay au ops es bt az ez aF fl N D listed a w->(∀k,k<ops.size->posOf aF k<N->listed.getD k false=true)->(N=ops.size\/(M<ops.size/\M=N))->
  ∃ax,fl.le ax/\RegRel0 ax au c8 a/\a.defers=D/\bd ay ax az w:=fun _ _ _ I ec _=>Ra C JO I ec
 have finish:∀(listed:Array Bool) (a:Act) (w:World),qF P ay au ops es bt az ez aF fl N D listed a w->Region.ready .any ops listed=[]->Q .normal a w:=by
  intro listed a w I aE;have ec:=done listed a w I aE;have JP:N=ops.size:=by
   rcases Nat.lt_or_ge N ops.size with aO | jl
   . exfalso;obtain ⟨i,By,oh⟩:=C.lq N aO;have:=I.tG i (ec i By);omega
   . exact Nat.le_antisymm C.CC jl
  obtain ⟨ax,g1,g2,g3,g4⟩:=full listed a w I (fun k aH _=>ec k aH) (.inl JP);exact cM JP ax a w g1 g2 g3 g4
 intro fuel
 induction fuel with
 | zero=>
   intro listed a w aD I;have ec:∀i,i<ops.size->listed.getD i false=true:=by
    intro i ao;have aW:(List.range ops.size).countP (fun i=>!listed.getD i false)=0:=by omega
    rw [List.countP_eq_zero] at aW;simpa using aW i (List.mem_range.2 ao)
   have aE:Region.ready .any ops listed=[]:=by
    cases aC:Region.ready .any ops listed with
    | nil=>rfl
    | cons j agS=>
      exfalso;have aU:j ∈ Region.ready .any ops listed:=by rw [aC];simp
      rw [mem_ready] at aU;obtain ⟨aa,o,ad,_⟩:=aU;have:=ec j (Array.getElem?_eq_some_iff.1 ad).1;rw [tW] at this;rw [Array.getD_eq_getD_getElem?,this] at aa;simp at aa
   exact ⟨aE,finish listed a w I aE⟩
 | succ fuel bq=>
   intro listed a w aD I;by_cases FJ:M<ops.size/\∀k,k<ops.size->posOf aF k<N->listed.getD k false=true
   . obtain ⟨v',ec⟩:=FJ;obtain ⟨ax,g1,g2,g3,g4⟩:=full listed a w I ec (.inr ⟨v',(C.tail v').1⟩);exact dK v' (fuel+1) listed ax a w aD I.sU I.down (fun k aH=>⟨I.tG k,ec k aH⟩) g1 g2 g3 g4
   have BS:∀i,i ∈ Region.ready .any ops listed->posOf aF i<M:=by
    intro i ao;have oh:=ao;rw [mem_ready] at oh;obtain ⟨aa,o,ad,wi⟩:=oh;have fy:i<ops.size:=(Array.getElem?_eq_some_iff.1 ad).1;rcases Nat.lt_or_ge M ops.size with v' | v'
    . obtain ⟨E4,y9⟩:=C.tail v';rcases Nat.lt_or_ge (posOf aF i) N with aO | jl
      . omega
      . exfalso;refine FJ ⟨v',fun k aH Km=>?_⟩;obtain ⟨cR,mq,_⟩:=C.j5 i o ad;have ae:=y9 i o cR ad jl mq k aH Km;have yE:qH ops fun k=>listed.getD k false=true\/k=i:=by
         intro k ok e aH bK he ae;rcases aH with aH | rfl
         . exact .inl (I.down k ok e aH bK he ae)
         . rw [ad] at bK;cases bK;exact .inl (wi e (Array.mem_toList_iff.1 he) (by rw [yb];exact ae))
        rcases Cu yE ops.toList [] (fun j=>by simp) (fun k m j aH=>by simp at aH) i cR k mq ae (.inr rfl) with h | h
        . exact h
        . subst h;omega
    . have:=(C.iz i fy).1;omega
   refine ⟨fun aE=>finish listed a w I aE,fun i ao=>?_⟩;refine Rl bJ cY dI C I ao (BS i ao) (fun h=>by cases h) (fun bw an HE=>bq _ bw an ?_ HE) iF;have oh:=ao;rw [mem_ready] at oh;obtain ⟨aa,o,ad,_⟩:=oh;have fy:i<ops.size:=(Array.getElem?_eq_some_iff.1 ad).1;have gE:i<listed.size:=by rw [I.sU];exact fy
   have uh:listed.getD i false=false:=by rw [Array.getD_eq_getD_getElem?,Array.getElem?_eq_getElem gE] at aa ⊢;exact aa
   have:=Ev (fun k=>!listed.getD k false) (fun k=>!(listed.setIfInBounds i true).getD k false) (List.range ops.size)
    (fun k _ aH=>by
      simp only [Bool.not_eq_true'] at aH ⊢;cases aC:listed.getD k false with
      | false=>rfl
      | true=>
        have:=(gb (k:=k) gE).2 (.inr aC);rw [aH] at this;cases this)
    ⟨i,List.mem_range.2 fy,by simp [uh],by have:=(gb (k:=i) gE).2 (.inl rfl);simp [this]⟩
   omega
theorem ah.set_comm (h:ah) {b bL:aQ} (ck:b≠bL) (k bg:cd):(h.set b k).set bL bg=(h.set bL bg).set b k:=by unfold ah.set;simp only;rw [T.put_comm _ _ _ _ _ _ (fun e=>ck e.symm)]
theorem M4 {o:Oper} {x:Operand} (h:tb o=some x):∃t y,o.op=.store t x y/\o.dst=none/\o.guard=none:=by
 unfold tb at h
 split at h
 case h_2=>cases h
 rename_i t XI y a6
 split at h
 case h_2=>cases h
 rename_i bb
 split at h
 case h_2=>cases h
 rename_i aB;cases h;exact ⟨t,y,a6,bb,aB⟩
theorem ajj {h ab:ah} {b:aQ} {off:Nat} {ai:List V} (he:lay h b off ai=some ab):∃k,ab=h.set b k/\∀H:ah,H.get b=h.get b->lay H b off ai=some (H.set b k):=by
 unfold lay at he ⊢;cases aB:h.get b<;>rw [aB] at he<;>simp only [cd.on] at he<;>try (cases he;done)
 obtain ⟨aD,aa⟩:=eG he;cases aa;refine ⟨_,rfl,fun H lf=>?_⟩;rw [lf];simp only [cd.on,aD,cond_true]
theorem Rh {all:Array Oper} {o:Oper} {x:Operand} {call:dQ} {r:bI} {h ab:ah} {v:V} (ak:tb o=some x) (he:(cG P au all o).run call r h=.val v ab):
 ∃b off k,(bT x).run (dx r (b7 all o))=.ptr b off/\ab=h.set b k/\∀H:ah,H.get b=h.get b->(cG P au all o).run call r H=.val v (H.set b k):=by
 obtain ⟨t,y,a6,bb,aB⟩:=M4 ak;obtain ⟨aa,ad⟩:=kH he;have key:cG P au all o=⟨jj none (fw P o) (b7 all o)⟩:=by unfold cG;rw [show (e7 au o.dst&&j2 (b7 all o))=true from by rw [aa,ad];rfl,aB];rfl
 rw [key] at he ⊢;simp only [jj] at he ⊢;have wc:∀H,(fw P o).run call (dx r (b7 all o)) H=hr .bad ((ta P t).run H ((bT x).run (dx r (b7 all o))) ((bT y).run (dx r (b7 all o)))):=by intro H;unfold fw;rw [a6]
 rw [wc] at he;cases aS:(ta P t).run h ((bT x).run (dx r (b7 all o))) ((bT y).run (dx r (b7 all o))) with
 | none=>rw [aS] at he;cases he
 | some aJ=>
   rw [aS] at he;simp only [hr,a7.val.injEq] at he;obtain ⟨rfl,rfl⟩:=he;unfold ta at aS;cases av:a' P t with
   | none=>rw [av] at aS;cases aS
   | some aR=>
     rw [av] at aS;simp only [xv] at aS;obtain ⟨b,off,af,bG⟩:=zI aS;obtain ⟨aD,di⟩:=eG bG;obtain ⟨k,bz,bx⟩:=ajj di;refine ⟨b,off,k,af,bz,fun H lf=>?_⟩;rw [wc];unfold ta;rw [av];simp only [xv,af,V.j0,aD,cond_true,bx H lf,hr]
theorem zR {listed:Array Bool} (iI:∀i o,ops[i]? =some o->mI i o=true) (cq:listed.size=ops.size) (aE:Region.ready .any ops listed=[]):∀i,i<ops.size->listed.getD i false=true:=by
 intro i
 induction i using Nat.strongRecOn with
 | _ i bq=>
   intro ao;cases gE:listed.getD i false with
   | true=>rfl
   | false=>
     exfalso;have cz:ops[i]? =some ops[i]:=Array.getElem?_eq_getElem ao;have iI:=iI i _ cz;have:i ∈ Region.ready .any ops listed:=by
      rw [mem_ready];refine ⟨?_,ops[i],cz,fun e he ae=>?_⟩
      . have aS:i<listed.size:=by rw [cq];exact ao
        rw [Array.getD_eq_getD_getElem?,Array.getElem?_eq_getElem aS] at gE ⊢;exact gE
      . have aa:=List.all_eq_true.1 iI e (Array.mem_toList_iff.2 he);rw [yb] at ae;rw [ae] at aa;simp only [Bool.not_true,Bool.false_or,Nat.blt_eq] at aa;exact bq e.on aa (by omega)
     rw [aE] at this;simp at this
theorem xj {listed:Array Bool} {i:Nat} (apb:listed.size=ops.size) (ao:i ∈ Region.ready .any ops listed):i<ops.size/\¬listed.getD i false=true:=by rw [mem_ready] at ao;obtain ⟨aa,o,ad,_⟩:=ao;refine ⟨(Array.getElem?_eq_some_iff.1 ad).1,fun h=>?_⟩;rw [tW] at h;rw [Array.getD_eq_getD_getElem?,h] at aa;simp at aa
theorem M_ {rd:Option Nat} {ay:Fr} (bJ:eO P) (cY:hi P call) (dI:ht P call) (iI:∀i o,ops[i]? =some o->mI i o=true) {i:Nat} {o:Oper} (cz:ops[i]? =some o) (bb:o.dst=none) {r:bI} {h ab:ah} {v:V}
 (he:(cG P au ops o).run call r h=.val v ab) {Q:Exit->Act->World->Prop} {E:Env} {a:Act} {w:World} (k:fF E au r a) (s:bd ay E h w) (cM:∀ax an,E.le ax->bd ay ax ab an->Q .normal a an)
 {listed:Array Bool} (cq:listed.size=ops.size) (ec:∀j,j<ops.size->(listed.getD j false=true↔j≠i)) (fuel:Nat) (az:1<=fuel):wpAnyIn (cw rd) 0 P .any ops Q fuel listed a w:=by
 have fy:i<ops.size:=(Array.getElem?_eq_some_iff.1 cz).1;have gE:i<listed.size:=by rw [cq];exact fy
 cases fuel with
 | zero=>omega
 | succ fuel=>
   refine ⟨fun aE=>absurd (zR iI cq aE i fy) (fun h=>((ec i fy).1 h) rfl),fun j aU=>?_⟩;obtain ⟨Cf,wS⟩:=xj cq aU;have Ki:j=i:=by
    rcases Nat.decEq j i with ck | he
    . exact absurd ((ec j Cf).2 ck) wS
    . exact he
   subst Ki;refine qS bJ cY dI cz he k.size (fun t av=>k.aq t (Nat.le_of_ble_eq_true (List.all_eq_true.1 (kH he).2 t av))) s fun ax x an ar aw aK=>?_;rw [bb];refine wpAnyIn_done ?_ (cM ax an ar aK) fuel;cases aE:Region.ready .any ops (listed.setIfInBounds j true) with
   | nil=>rfl
   | cons m ms=>
     exfalso;have hm:m ∈ Region.ready .any ops (listed.setIfInBounds j true):=by rw [aE];simp
     obtain ⟨m1,m2⟩:=xj (by simp [cq]) hm;refine m2 ((gb gE).2 ?_);by_cases SN:m=j
     . exact .inl SN
     . exact .inr ((ec m m1).2 SN)
theorem anF {rd:Option Nat} {ay:Fr} (bJ:eO P) (cY:hi P call) (dI:ht P call) (iI:∀i o,ops[i]? =some o->mI i o=true) {i j:Nat} {o p:Oper} (cz:ops[i]? =some o) (oi:ops[j]? =some p) (nj:i≠j) (bb:o.dst=none) (mv:p.dst=none)
 {r:bI} {h aa gN ad:ah} {v dd u gR:V} (he:(cG P au ops o).run call r h=.val v aa) (af:(cG P au ops p).run call r aa=.val u ad) (gF:(cG P au ops p).run call r h=.val gR gN) (eQ:(cG P au ops o).run call r gN=.val dd ad)
 {Q:Exit->Act->World->Prop} {E:Env} {a:Act} {w:World} (k:fF E au r a) (s:bd ay E h w) (cM:∀ax an,E.le ax->bd ay ax ad an->Q .normal a an)
 {listed:Array Bool} (cq:listed.size=ops.size) (ec:∀m,m<ops.size->(listed.getD m false=true↔(m≠i/\m≠j))) (fuel:Nat) (az:2<=fuel):wpAnyIn (cw rd) 0 P .any ops Q fuel listed a w:=by
 have fy:i<ops.size:=(Array.getElem?_eq_some_iff.1 cz).1;have Fm:j<ops.size:=(Array.getElem?_eq_some_iff.1 oi).1;have kP:∀{q:Oper} {H fb:ah} {z:V},(cG P au ops q).run call r H=.val z fb->∀t ∈ b7 ops q,Rel E (T.get .bad (aj t) r) (a.tmps.getD t undef):=
  fun he t av=>k.aq t (Nat.le_of_ble_eq_true (List.all_eq_true.1 (kH he).2 t av))
 cases fuel with
 | zero=>omega
 | succ fuel=>
   refine ⟨fun aE=>absurd (zR iI cq aE i fy) (fun h=>((ec i fy).1 h).1 rfl),fun m hm=>?_⟩;obtain ⟨m1,m2⟩:=xj cq hm;have h9:m=i\/m=j:=by
    rcases Nat.decEq m i with ck | he
    . rcases Nat.decEq m j with afl | eo
      . exact absurd ((ec m m1).2 ⟨ck,afl⟩) m2
      . exact .inr eo
    . exact .inl he
   rcases h9 with rfl | rfl
   . refine qS bJ cY dI cz he k.size (kP he) s fun ax x an ar aw aK=>?_;rw [bb];have gE:m<listed.size:=by rw [cq];exact fy
     refine M_ bJ cY dI iI oi mv af (k.mono ar) aK (fun cm b2 bW bV=>cM cm b2 (ar.trans bW) bV) (by simp [cq]) (fun z bn=>?_) fuel (by omega);rw [gb gE,ec z bn];constructor
     . rintro (rfl | h)
       . exact nj
       . exact h.2
     . intro h;by_cases B8:z=m
       . exact .inl B8
       . exact .inr ⟨B8,h⟩
   . refine qS bJ cY dI oi gF k.size (kP gF) s fun ax x an ar aw aK=>?_;rw [mv];have gE:m<listed.size:=by rw [cq];exact Fm
     refine M_ bJ cY dI iI cz bb eQ (k.mono ar) aK (fun cm b2 bW bV=>cM cm b2 (ar.trans bW) bV) (by simp [cq]) (fun z bn=>?_) fuel (by omega);rw [gb gE,ec z bn];constructor
     . rintro (rfl | h)
       . exact fun e=>nj e.symm
       . exact h.1
     . intro h;by_cases B8:z=m
       . exact .inl B8
       . exact .inr ⟨h,B8⟩
theorem XE {rd:Option Nat} {id:Nat} {a:Act} {w:World} {Q:Exit->Act->World->Prop} (hm:P.follows .mixedOrders=true)
 (h:wpAnyIn (cw rd) 0 P .any ops Q ops.size (Array.replicate ops.size false) a {w with drawn:=w.drawn+1}):(Code.region id ops true).wpIn (cw rd) 0 P Q a w:=by
 refine wpIn_region_draw fun t=>?_;rw [hm];exact wpAnyIn_sound _ _ _ _ _ h
theorem Nj {r bD:bI}:∀{rs:List Nat},(∀t ∈ rs,T.get .bad (aj t) bD=T.get .bad (aj t) r)->dx bD rs=dx r rs
 | [],_=>rfl
 | t::cN,h=>by simp only [dx];rw [h t (by simp),Nj (rs:=cN) fun u hu=>h u (by simp [hu])]
theorem ach {all:Array Oper} {o:Oper} {call:dQ} {r bD:bI} (h:∀t ∈ b7 all o,T.get .bad (aj t) bD=T.get .bad (aj t) r) (H:ah):(cG P au all o).run call bD H=(cG P au all o).run call r H:=by
 unfold cG;cases aD:(e7 au o.dst&&j2 (b7 all o)) with
 | false=>rfl
 | true=>
   simp only [cond_true];cases aB:o.guard with
   | none=>simp only [jj,Nj h]
   | some qd=>
     obtain ⟨j,want⟩:=qd;simp only;cases all[j]? with
     | none=>rfl
     | some g=>
       simp only;cases g.dst with
       | none=>rfl
       | some d=>
         simp only;cases (Nat.blt d au&&Nat.ble d top) with
         | false=>rfl
         | true=>simp only [cond_true,jj,Nj h]
theorem anE {rd:Option Nat} {ay:Fr} (bJ:eO P) (cY:hi P call) (dI:ht P call) (iI:∀i o,ops[i]? =some o->mI i o=true) {l i j:Nat} {b o p:Oper} (q_:ops[l]? =some b) (cz:ops[i]? =some o) (oi:ops[j]? =some p)
 (gE:l≠i) (SH:l≠j) (nj:i≠j) (bb:o.dst=none) (mv:p.dst=none) {r br:bI} {h aa gN ad:ah} {z v dd u gR:V}
 (ae:∀H,(cG P au ops b).run call r H=.val z H) (sF:br=(fX b.dst).run r z) (y7:∀t ∈ b7 ops p,T.get .bad (aj t) br=T.get .bad (aj t) r)
 (he:(cG P au ops o).run call br h=.val v aa) (af:(cG P au ops p).run call br aa=.val u ad) (gF:(cG P au ops p).run call br h=.val gR gN) (eQ:(cG P au ops o).run call br gN=.val dd ad)
 {Q:Exit->Act->World->Prop} {E:Env} {a:Act} {w:World} (k:fF E au r a) (s:bd ay E h w) (cM:∀ax bw an,E.le ax->fF ax au br bw->bd ay ax ad an->Q .normal bw an)
 {listed:Array Bool} (cq:listed.size=ops.size) (v7:qH ops fun k=>listed.getD k false=true) (agd:∀cR,(eT [] ops.toList)[i]? =some cR->gi cR l=true) (mq:∃cR,(eT [] ops.toList)[i]? =some cR)
 (ec:∀m,m<ops.size->(listed.getD m false=true↔(m≠l/\m≠i/\m≠j))) (fuel:Nat) (az:3<=fuel):wpAnyIn (cw rd) 0 P .any ops Q fuel listed a w:=by
 have ue:l<ops.size:=(Array.getElem?_eq_some_iff.1 q_).1;have fy:i<ops.size:=(Array.getElem?_eq_some_iff.1 cz).1;have Fm:j<ops.size:=(Array.getElem?_eq_some_iff.1 oi).1;have kP:∀{E:Env} {a:Act} {q:Oper} {R:bI} {H fb:ah} {z:V},fF E au R a->(cG P au ops q).run call R H=.val z fb->∀t ∈ b7 ops q,Rel E (T.get .bad (aj t) R) (a.tmps.getD t undef):=
  fun k he t av=>k.aq t (Nat.le_of_ble_eq_true (List.all_eq_true.1 (kH he).2 t av))
 have UM:∀(L:Array Bool),(qH ops fun k=>L.getD k false=true)->¬L.getD l false=true->i ∈ Region.ready .any ops L->False:=by
  intro L ad1 ug yV;rw [mem_ready] at yV;obtain ⟨_,cj,hp,wi⟩:=yV;rw [cz] at hp;cases hp;obtain ⟨cR,mq⟩:=mq;have yE:qH ops fun k=>L.getD k false=true\/k=i:=by
   intro k ok e aH bK he ae;rcases aH with aH | rfl
   . exact .inl (ad1 k ok e aH bK he ae)
   . rw [cz] at bK;cases bK;exact .inl (wi e (Array.mem_toList_iff.1 he) (by rw [yb];exact ae))
  rcases Cu yE ops.toList [] (fun j=>by simp) (fun k m j aH=>by simp at aH) i cR l mq (agd cR mq) (.inr rfl) with h | h
  . exact ug h
  . exact gE h
 have acn:∀m,m ∈ Region.ready .any ops listed->qH ops fun k=>(listed.setIfInBounds m true).getD k false=true:=by
  intro m hm k ok e aH bK he ae;have o_:=hm;rw [mem_ready] at o_;obtain ⟨_,aqw,SV,wi⟩:=o_;have aff:m<listed.size:=by rw [cq];exact (Array.getElem?_eq_some_iff.1 SV).1
  rw [gb aff] at aH ⊢;rcases aH with rfl | aH
  . rw [SV] at bK;cases bK;exact .inr (wi e (Array.mem_toList_iff.1 he) (by rw [yb];exact ae))
  . exact .inr (v7 k ok e aH bK he ae)
 cases fuel with
 | zero=>omega
 | succ fuel=>
   refine ⟨fun aE=>absurd (zR iI cq aE i fy) (fun h=>((ec i fy).1 h).2.1 rfl),fun m hm=>?_⟩;obtain ⟨m1,m2⟩:=xj cq hm;have h9:m=l\/m=j:=by
    rcases Nat.decEq m l with cT | aP
    . rcases Nat.decEq m j with gP | bf
      . rcases Nat.decEq m i with n3 | c4
        . exact absurd ((ec m m1).2 ⟨cT,n3,gP⟩) m2
        . subst c4;exact (UM listed v7 (fun h=>((ec l ue).1 h).1 rfl) hm).elim
      . exact .inr bf
    . exact .inl aP
   rcases h9 with rfl | rfl
   . -- p first
     have lO:m<listed.size:=by rw [cq];exact ue
     refine qS bJ cY dI q_ (ae h) k.size (kP k (ae h)) s fun ax x an ar aw aK=>?_;have bz:fF ax au br (a.put b.dst x):=by rw [sF];exact (k.mono ar).put (kH (ae h)).1 aw
     refine anF bJ cY dI iI cz oi nj bb mv he af gF eQ bz aK (fun cm b2 bW bV=>cM cm _ b2 (ar.trans bW) (bz.mono bW) bV) (by simp [cq]) (fun y aZ=>?_) fuel (by omega);rw [gb lO,ec y aZ];constructor
     . rintro (rfl | h)
       . exact ⟨gE,SH⟩
       . exact h.2
     . intro h;by_cases B4:y=m
       . exact .inl B4
       . exact .inr ⟨B4,h⟩
   . -- q first
     have lO:m<listed.size:=by rw [cq];exact Fm
     have wC:(cG P au ops p).run call r h=.val gR gN:=by rw [<-ach y7];exact gF
     have ad2:=acn m hm;refine qS bJ cY dI oi wC k.size (kP k wC) s fun ax x an ar aw aK=>?_;rw [mv];have wH:(listed.setIfInBounds m true).size=ops.size:=by simp [cq]
     cases fuel with
     | zero=>omega
     | succ fuel=>
       refine ⟨fun aE=>absurd (zR iI wH aE i fy) (fun h=>?_),fun y aZ=>?_⟩
       . rcases (gb lO).1 h with e | h
         . exact nj e
         . exact ((ec i fy).1 h).2.1 rfl
       obtain ⟨e1,fZ⟩:=xj wH aZ;have agp:y=l:=by
        rcases Nat.decEq y l with cT | aP
        . rcases Nat.decEq y i with n3 | c4
          . exfalso;refine fZ ((gb lO).2 ?_);by_cases B4:y=m
            . exact .inl B4
            . exact .inr ((ec y e1).2 ⟨cT,n3,B4⟩)
          . subst c4;refine (UM _ ad2 (fun h=>?_) aZ).elim;rcases (gb lO).1 h with e | h
            . exact SH e
            . exact ((ec l ue).1 h).1 rfl
        . exact aP
       subst agp;have bg:=k.mono ar;refine qS bJ cY dI q_ (ae gN) bg.size (kP bg (ae gN)) aK fun cm eB b2 t1 t2 t3=>?_;have bz:fF cm au br (a.put b.dst eB):=by rw [sF];exact (bg.mono t1).put (kH (ae h)).1 t2
       have Kv:y < (listed.setIfInBounds m true).size:=by rw [wH];exact ue
       refine M_ bJ cY dI iI cz bb eQ bz t3 (fun mO iS bW bV=>cM mO _ iS (ar.trans (t1.trans bW)) (bz.mono bW) bV) (by simp [cq]) (fun g aB=>?_) fuel (by omega);rw [gb Kv,gb lO,ec g aB];constructor
       . rintro (rfl | rfl | h)
         . exact gE
         . exact fun e=>nj e.symm
         . exact h.2.1
       . intro h;by_cases aP:g=y
         . exact .inl aP
         . by_cases bf:g=m
           . exact .inr (.inl bf)
           . exact .inr (.inr ⟨aP,h,bf⟩)
theorem Je {rd:Option Nat} {ay:Fr} {E:Env} {h:ah} {w:World} {id:Nat} (dz:P.follows .mixedOrders=true) (bJ:eO P) (cY:hi P call) (dI:ht P call) {r:bI} {a:Act}
 {Q:Exit->Act->World->Prop} (k:fF E au r a) (s:bd ay E h w) {es:List e2} {eZ:bI} {bl:ah} {order aF ez:List Nat} {N M:Nat} (C:Cert P au ops (fun _=>call) es r h eZ bl ez order aF N M false)
 (cM:N=ops.size->∀ax bw an,E.le ax->fF ax au eZ bw->bd ay ax bl an->Q .normal bw an)
 (iF:∀ax bw an x v ab,E.le ax->N<ops.size->ops.size<=M->(∃i0 iw,ops[i0]? =some iw/\posOf aF i0=N/\(cG P au ops iw).run call eZ bl=.cP v ab)->fF ax au (o5 r ops.toList) bw->Rel ax v x->bd ay ax ab an->Q (.panic (qq x)) bw an)
 (dK:M<ops.size->∀(fuel:Nat) (listed:Array Bool) ax bw an,(List.range ops.size).countP (fun i=>!listed.getD i false)<=fuel->listed.size=ops.size->qH ops (fun k=>listed.getD k false=true)->(∀k,k<ops.size->(listed.getD k false=true↔posOf aF k<N))->
   E.le ax->fF ax au eZ bw->bd ay ax bl an->wpAnyIn (cw rd) 0 P .any ops Q fuel listed bw an):
 (Code.region id ops true).wpIn (cw rd) 0 P Q a w:=by
 have dE:∀k,¬(Array.replicate ops.size false).getD k false=true:=by
  intro k;rw [tW,Array.getElem?_replicate]
  split<;>simp
 have kq:Holds ay ay es bl aF (ki ops es bl aF (Array.replicate ops.size false) 0):=
  ⟨rfl,fun _ _=>rfl,fun k aH=>(by obtain ⟨_,_,_,_,aW⟩:=aH;omega),fun k bg aH=>(by obtain ⟨_,_,_,_,aW⟩:=aH;omega)⟩
 obtain ⟨hO,fD,g1,g2,g3,g4,g5,g6⟩:=C.advance N 0 (by omega) (fun k o _ _ _=>dE k) ay kq (E:=E) (w:={w with drawn:=w.drawn}) (by rw [C.aW];exact s.same rfl rfl rfl rfl);have lL:∀(ax:Env) (bw:Act),E.le ax->bw.defers=a.defers->∀(bD:bI),T.get .bad e6 bD=T.get .bad e6 r->lz ax (T.get .bad e6 bD) bw.defers:=fun ax bw he bb bD sE=>by rw [sE,bb];exact k.defers.mono he
 have Fg:T.get .bad e6 eZ=T.get .bad e6 r:=by have:=C.Jg N (Nat.le_refl _);have KD:es[N]? =none:=List.getElem?_eq_none (by rw [C.len];exact Nat.le_refl _);simpa [et,KD] using this
 refine XE dz (Rk bJ (fun _=>cY) (fun _=>dI) C (fl:=E) (D:=a.defers)
  (fun aV ax bw an ar aw aK bY=>cM aV ax bw an ar ⟨aw,lL ax bw ar aK eZ Fg⟩ bY)
  (fun ax bw an x v ab ar aw GO aK bY ek fk h3=>iF ax bw an x v ab ar aw GO aK ⟨bY,lL ax bw ar ek _ EF⟩ fk h3)
  (fun g0 fuel listed ax bw an g1 g2 g3 g4 ar aw aK bY=>dK g0 fuel listed ax bw an g1 g2 g3 g4 ar ⟨aw,lL ax bw ar aK eZ Fg⟩ bY) ops.size _ a _ ?_ ?_)
 . exact Nat.le_trans List.countP_le_length (by simp)
 . refine ⟨by simp,k.size,rfl,fun bg aH=>absurd aH (dE bg),fun bg o e aH=>absurd aH (dE bg),E,hO,fD,Env.le.refl E,g1,g3,fun bg o aa ad=>⟨fun h=>absurd h (dE bg),fun h=>by have:=g4 bg o aa ad (Nat.zero_le _);omega⟩,
    fun bg o _ _ h=>absurd h (dE bg),g5,?_,fun t av=>.inr ⟨fun bg o aH=>absurd aH (dE bg),k.aq t av⟩⟩
   exact g6.same rfl rfl rfl rfl
theorem Vm {n:Nat} {order aF:List Nat} (hq:l9 n order aF=true):order.length=n/\(∀k,k<n->posOf aF k<n/\order[posOf aF k]? =some k)/\∀p,p<n->∃i,i<n/\posOf aF i=p:=by
 unfold l9 at hq;simp only [Bool.and_eq_true,Nat.beq_eq] at hq;obtain ⟨ks,ns,sA,sB⟩:=hq;refine ⟨ks,fun k aH=>?_,fun p af=>?_⟩
 . have aB:aF[k]? =some (posOf aF k):=by
    unfold posOf;rw [List.getElem?_eq_getElem (by omega)];rfl
   have:=uK sA aB;rw [Nat.zero_add] at this;exact ⟨by have:=(List.getElem?_eq_some_iff.1 this).1;omega,this⟩
 . have aB:order[p]? =some (order[p]'(by omega)):=List.getElem?_eq_getElem (by omega);have:=uK sB aB;rw [Nat.zero_add] at this;refine ⟨order[p]'(by omega),by have:=(List.getElem?_eq_some_iff.1 this).1;omega,?_⟩;unfold posOf;rw [this];rfl
theorem anC {order aF:List Nat} (az:C7 P ops order aF=true):3<=ops.size/\∀i o,ops[i]? =some o->∃cR,(eT [] ops.toList)[i]? =some cR/\mI i o=true/\
 (posOf aF i<ops.size-3->∀k ok,ops[k]? =some ok->posOf aF k<ops.size-3->∃mk,(eT [] ops.toList)[k]? =some mk/\pv i cR (b7 ops o) o.dst k mk ok (Nat.blt (posOf aF k) (posOf aF i))=true/\(e' P o.op=true->ei P ok=true->posOf aF k<posOf aF i->gi cR k=true))/\
 (¬posOf aF i<ops.size-3->Hb P ops order aF (ops.size-3) i cR o=true):=by
 unfold C7 at az;simp only [Bool.and_eq_true,Nat.ble_eq] at az;refine ⟨az.1,fun i o ao=>?_⟩;obtain ⟨cR,aa,ad⟩:=qE az.2 i o (by simpa using ao);simp only [Nat.zero_add,Bool.and_eq_true] at ad;refine ⟨cR,aa,ad.1,fun aO k ok aH iH=>?_,fun jl=>?_⟩
 . have aJ:=ad.2;rw [show Nat.blt (posOf aF i) (ops.size-3)=true from by rw [Nat.blt_eq];exact aO] at aJ;simp only [cond_true] at aJ;obtain ⟨mk,bz,bx⟩:=qE aJ k ok (by simpa using aH);simp only [Nat.zero_add] at bx;rw [show Nat.blt (posOf aF k) (ops.size-3)=true from by rw [Nat.blt_eq];exact iH] at bx;simp only [cond_true,Bool.and_eq_true] at bx;refine ⟨mk,bz,bx.1,fun aP bf aO=>?_⟩;have cU:=bx.2;rw [aP,bf,Bool.true_and,show Nat.blt (posOf aF k) (posOf aF i)=true from by rw [Nat.blt_eq];exact aO] at cU;exact cU
 . have aJ:=ad.2;rw [show Nat.blt (posOf aF i) (ops.size-3)=false from by rw [<-Bool.not_eq_true,Nat.blt_eq];exact jl] at aJ;exact aJ
theorem anD {order aF:List Nat} {N i cR p:Nat} {o GL:Oper} (af:order[N]? =some p) (lQ:ops[p]? =some GL) (h:Hb P ops order aF N i cR o=true):
 (∀k,k<ops.size->posOf aF k<N->gi cR k=true)/\(posOf aF i=N->e' P o.op=false/\looks o.op=false)/\(posOf aF i≠N->∃x,tb o=some x)/\
 (posOf aF i=N+1->gi cR p=true)/\(posOf aF i=N+2->∀t ∈ b7 ops o,GL.dst≠some t):=by
 unfold Hb at h;rw [af] at h;simp only [Bool.and_eq_true] at h;obtain ⟨⟨aa,ad⟩,aJ,bG⟩:=h;refine ⟨fun k aH Km=>?_,fun e=>?_,fun e=>?_,fun e=>?_,fun e t av=>?_⟩
 . obtain ⟨mk,bz,bx⟩:=qE aa k ops[k] (by simp);simp only [Nat.zero_add] at bx;rw [show Nat.blt (posOf aF k) N=true from by rw [Nat.blt_eq];exact Km] at bx;exact bx
 . rw [im,if_pos e] at ad;simpa using ad
 . rw [im,if_neg e] at ad;exact Option.isSome_iff_exists.1 ad
 . rw [im,if_pos e] at aJ;exact aJ
 . rw [im,if_pos e,lQ] at bG;simp only at bG;intro bb;rw [bb] at bG;simp only [Bool.not_eq_true'] at bG;rw [show (b7 ops o).contains t=true from by simpa using av] at bG;cases bG
theorem J6 {es:List e2} {bl:ah} {N p:Nat} (af:p<=N):cn (es.take N) (cn es bl N) p=cn es bl p:=by
 by_cases h:p<N
 . cases he:es[p]? with
   | some e=>simp [cn,h,he]
   | none=>
     have aV:es[N]? =none:=List.getElem?_eq_none (by have:=List.getElem?_eq_none_iff.1 he;omega);simp [cn,h,he,aV]
 . have:p=N:=by omega
   subst this;simp [cn,List.getElem?_take]
theorem VZ {es:List e2} {eZ:bI} {N p:Nat} (af:p<=N):et (es.take N) (et es eZ N) p=et es eZ p:=by
 by_cases h:p<N
 . cases he:es[p]? with
   | some e=>simp [et,h,he]
   | none=>
     have aV:es[N]? =none:=List.getElem?_eq_none (by have:=List.getElem?_eq_none_iff.1 he;omega);simp [et,h,he,aV]
 . have:p=N:=by omega
   subst this;simp [et,List.getElem?_take]
theorem Zp {order:List Nat} {es:List e2} {N i j:Nat} {o p:Oper} {e f:e2} {x y:Operand} (a1:D6 ops order es N=true) (ao:order[N]? =some i) (aU:order[N+1]? =some j) (cz:ops[i]? =some o) (oi:ops[j]? =some p)
 (he:es[N]? =some e) (az:es[N+1]? =some f) (ak:tb o=some x) (aZ:tb p=some y) {b c:aQ} {off lp:Nat} (ae:(bT x).run (dx e.r (b7 ops o))=.ptr b off) (aD:(bT y).run (dx f.r (b7 ops p))=.ptr c lp):b≠c:=by
 unfold D6 M5 at a1;simp only [ao,aU,cz,oi,he,az,ak,aZ,ae,aD] at a1;intro h;subst h;rw [aQ.yn] at a1;cases a1
theorem acq {rd:Option Nat} {ay:Fr} {E:Env} {h:ah} {w:World} {id:Nat} (dz:P.follows .mixedOrders=true) (bJ:eO P) (cY:hi P call) (dI:ht P call) {r:bI} {a:Act} {order aF:List Nat} (hq:l9 ops.size order aF=true) (gC:C7 P ops order aF=true)
 {Q:Exit->Act->World->Prop} (af:nY ay E au (Q .normal) Q (Jd ops order (fO P au ops (hN ops order)) (r9 P au ops (eT [] ops.toList) aF (h0 P aF 0 ops.toList) 0 ops.toList) call r h)) (k:fF E au r a) (s:bd ay E h w):(Code.region id ops true).wpIn (cw rd) 0 P Q a w:=by
 obtain ⟨ks,iz,lq⟩:=Vm hq;obtain ⟨ad,gC⟩:=anC gC;unfold Jd at af;cases cO:(fO P au ops (hN ops order)).run call r h with
 | fail=>rw [cO] at af;exact af.elim
 | cP _ _ _ _ _=>rw [cO] at af;exact af.elim
 | ok es eZ bl=>
   rw [cO] at af;simp only at af;obtain ⟨N,ad_⟩:∃N,N=ops.size-3:=⟨_,rfl⟩;rw [<-ad_] at af gC;cases aC:(D6 ops order es (N+1)&&(r9 P au ops (eT [] ops.toList) aF (h0 P aF 0 ops.toList) 0 ops.toList).run call (es.take N) (cn es bl N)) with
   | false=>rw [aC] at af;exact af.elim
   | true=>
     rw [aC] at af;simp only [cond_true] at af;simp only [Bool.and_eq_true] at aC;obtain ⟨E',Bp⟩:=aC;obtain ⟨ar,aw,aK,bY⟩:=uX cO;have hlen:es.length=ops.size:=by rw [ar,qo,ks]
     have inj:∀i j,i<ops.size->j<ops.size->posOf aF i=posOf aF j->i=j:=by intro i j ao aU he;have a:=(iz i ao).2;have b:=(iz j aU).2;rw [he,b] at a;cases a;rfl
     obtain ⟨my,tZ,yF⟩:=lq N (by omega);obtain ⟨pf,yC,yD⟩:=lq (N+1) (by omega);obtain ⟨rj,q2,tY⟩:=lq (N+2) (by omega);have Bz:ops[my]? =some ops[my]:=Array.getElem?_eq_getElem tZ;have Fk:ops[pf]? =some ops[pf]:=Array.getElem?_eq_getElem yC;have Fl:ops[rj]? =some ops[rj]:=Array.getElem?_eq_getElem q2;have KK:=(iz my tZ).2;have KI:=(iz pf yC).2;have KJ:=(iz rj q2).2;rw [yF] at KK;rw [yD] at KI;rw [tY] at KJ;have y9:∀i o,ops[i]? =some o->¬posOf aF i<N->∃cR,(eT [] ops.toList)[i]? =some cR/\(∀k,k<ops.size->posOf aF k<N->gi cR k=true)/\(posOf aF i=N->e' P o.op=false/\looks o.op=false)/\(posOf aF i≠N->∃x,tb o=some x)/\
      (posOf aF i=N+1->gi cR my=true)/\(posOf aF i=N+2->∀t ∈ b7 ops o,ops[my].dst≠some t):=by
      intro i o ao jl;obtain ⟨cR,b6,_,_,z4⟩:=gC i o ao;exact ⟨cR,b6,anD KK Bz (z4 jl)⟩
     obtain ⟨aqf,_,_,anA,_⟩:=y9 my _ Bz (by omega);obtain ⟨akb,SK,_,_,anx,al,_⟩:=y9 pf _ Fk (by omega);obtain ⟨zu,BH,_,_,anz,_,Mv⟩:=y9 rj _ Fl (by omega);obtain ⟨Rr,aj2⟩:=anA yF;obtain ⟨aqW,K2⟩:=anx (by omega);obtain ⟨aqX,K3⟩:=anz (by omega);have al:=al yD;have Mv:=Mv tY;obtain ⟨Jk,dZ,eS,Cl⟩:=bY _ _ (nD KK Bz);obtain ⟨vK,bZ,a2,a3⟩:=bY _ _ (nD KI Fk);obtain ⟨Ro,cb,ca,e5⟩:=bY _ _ (nD KJ Fl);obtain ⟨aqM,aq0,akS,Q5,apt⟩:=M4 K2;obtain ⟨aqN,aq1,aqr,Q6,vW⟩:=M4 K3;have dE:es[N+2+1]? =none:=List.getElem?_eq_none (by omega);have afa:cn es bl (N+2+1)=bl:=by simp [cn,dE]
     have amp:et es eZ (N+2+1)=eZ:=by simp [et,dE]
     have ad':cn es bl N=Jk.h:=by simp [cn,dZ]
     have al9:et es eZ N=Jk.r:=by simp [et,dZ]
     have ad8:cn es bl (N+1)=vK.h:=by simp [cn,bZ]
     have al7:et es eZ (N+1)=vK.r:=by simp [et,bZ]
     have ad9:cn es bl (N+1+1)=Ro.h:=by simp [cn,cb]
     have al8:et es eZ (N+1+1)=Ro.r:=by simp [et,cb]
     rw [al7] at Cl;rw [ad8] at eS;rw [Q5,al8] at a3;rw [Q6,amp] at e5;simp only [fX] at a3 e5;rw [ad9] at a2;rw [afa] at ca;obtain ⟨ad7,JN⟩:=vJ Rr eS;have JN:=JN aj2;obtain ⟨Pb,aqs,agT,alu,Wj,an7⟩:=Rh K2 a2;obtain ⟨Ip,aqt,TK,xb,amK,an8⟩:=Rh K3 ca;have ck:Pb≠Ip:=Zp E' KI KJ Fk Fl bZ cb K2 K3 alu xb;have sr:=an8 vK.h (by rw [Wj,ah.dC,if_neg ck]);have Bn:=an7 (vK.h.set Ip TK) (by rw [ah.dC,if_neg (fun e=>ck e.symm)]);have aeu:(vK.h.set Ip TK).set Pb agT=bl:=by rw [ah.set_comm _ (fun e=>ck e.symm),<-Wj,<-amK]
     rw [aeu] at Bn;rw [a3] at sr ca;have wG:eZ=vK.r:=e5.trans a3;have afi:∀m,m<ops.size->(posOf aF m<N↔(m≠my/\m≠pf/\m≠rj)):=by
      intro m hm;have SY:=(iz m hm).1;constructor
      . intro h;exact ⟨fun e=>by subst e;omega,fun e=>by subst e;omega,fun e=>by subst e;omega⟩
      . rintro ⟨cD,cT,gP⟩;have tI:posOf aF m≠N:=fun e=>cD (inj m my hm tZ (by rw [e,yF]));have bP:posOf aF m≠N+1:=fun e=>cT (inj m pf hm yC (by rw [e,yD]));have bX:posOf aF m≠N+2:=fun e=>gP (inj m rj hm q2 (by rw [e,tY]));omega
     have aer:ei P ops[pf]=true:=by unfold ei hb;rw [akS];rfl
     have y7:∀t ∈ b7 ops ops[rj],T.get .bad (aj t) vK.r=T.get .bad (aj t) Jk.r:=by intro t av;have y_:t<=top:=Nat.le_of_ble_eq_true (List.all_eq_true.1 (kH ca).2 t av);rw [Cl,R3 (kH eS).1 y_,if_neg (Mv t av)]
     have h':∀i o,ops[i]? =some o->posOf aF i<N->∃e,(es.take N)[posOf aF i]? =some e/\(cG P au ops o).run call e.r e.h=.val e.v (cn (es.take N) (cn es bl N) (posOf aF i+1))/\et (es.take N) (et es eZ N) (posOf aF i+1)=(fX o.dst).run e.r e.v:=by
      intro i o a6 ao;obtain ⟨e,b6,z2,z3⟩:=bY _ o (nD (iz i (Array.getElem?_eq_some_iff.1 a6).1).2 a6);refine ⟨e,by simp [ao,b6],?_,?_⟩
      . rw [J6 (by omega)];exact z2
      . rw [VZ (by omega)];exact z3
     have C:Cert P au ops (fun _=>call) (es.take N) r h (et es eZ N) (cn es bl N) (N::h0 P aF 0 ops.toList) order aF N N false:=
      ⟨by simp [hlen];omega,by omega,Nat.le_refl _,iz,lq,by rw [J6 (Nat.zero_le _)];exact aw,by rw [VZ (Nat.zero_le _)];exact aK,h',
        fun i o a6=>by obtain ⟨cR,b6,z2,z3,_⟩:=gC i o a6;exact ⟨cR,b6,z2,fun ao k ok aH Kl=>by obtain ⟨mk,e1,fZ,y3⟩:=z3 ao k ok aH Kl;exact ⟨mk,e1,fZ,fun a b c=>.inl (y3 a b c)⟩⟩,
        by simp,
        fun j o aa ad=>List.mem_cons_of_mem _ (by simpa using zs (aF:=aF) (i:=0) (j:=j) (l:=ops.toList) (by simpa using aa) ad),
        fun s aS=>by
         rcases List.mem_cons.1 aS with rfl | aS
         . exact .inl (.inr ⟨rfl,rfl⟩)
         . rcases uA aS with h | ⟨j,o,aa,ad,aJ⟩
           . exact .inl (.inl (by simpa using h))
           . exact .inr ⟨j,o,by simpa using aa,ad,by simpa using aJ⟩,
        fun j o aa ad aJ bG=>by
         obtain ⟨e,g1,_⟩:=h' j o aa bG;have Tc:=Ii Bp j o (by simpa using aa) ad aJ e (by simpa using g1);refine ⟨e,g1,fun s aS hm=>?_⟩;rcases List.mem_cons.1 aS with rfl | aS
         . have nn:sY P (eT [] ops.toList) ops.toList aF j (((eT [] ops.toList)[j]?).getD 0) (s+1)=true:=by
            unfold sY at hm ⊢;refine NH (by rw [LG];simp) fun dj mk ok e1 fZ=>?_;obtain ⟨mk',bA,eB⟩:=qE hm dj ok fZ;rw [e1] at bA;cases bA;simp only [Nat.zero_add] at eB ⊢;have bK:ops[dj]? =some ok:=by simpa using fZ
            have iH:=(Array.getElem?_eq_some_iff.1 bK).1;by_cases fU:posOf aF dj=s
            . have:dj=my:=inj dj my iH tZ (by rw [fU,yF]);subst this;rw [Bz] at bK;cases bK;have afk:ei P ops[dj]=false:=by unfold ei;rw [Rr];rfl
              rw [afk];rfl
            . have:Nat.blt (posOf aF dj) (s+1)=Nat.blt (posOf aF dj) s:=by
               rw [Bool.eq_iff_iff,Nat.blt_eq,Nat.blt_eq];omega
              rw [this];exact eB
           have yV:s+1 ∈ h0 P aF 0 ops.toList:=by rw [<-yD];simpa using zs (P:=P) (aF:=aF) (i:=0) (j:=pf) (l:=ops.toList) (by simp) aer
           obtain ⟨ab,g3⟩:=Tc (s+1) yV (by simpa using nn);refine ⟨call,ab,⟨cY,dI⟩,?_⟩;have aP:cn (es.take s) (cn es bl s) (s+1)=cn es bl s:=by have:(es.take s)[s+1]? =none:=List.getElem?_eq_none (by simp;omega);simp only [cn,this]
           have bf:cn (es.take s) (cn es bl s) s=cn es bl s:=J6 (Nat.le_refl _);rw [aP] at g3;rw [bf];exact g3
         . obtain ⟨ab,g3⟩:=Tc s aS (by simpa using hm);exact ⟨call,ab,⟨cY,dI⟩,g3⟩,
        fun _=>⟨rfl,fun dj ok mk aH jl nq j aU BA=>by obtain ⟨cR,b6,z2,_⟩:=y9 dj ok aH (by omega);rw [nq] at b6;cases b6;exact z2 j aU BA⟩,
        fun aa ad=>by omega⟩
     refine Je dz bJ cY dI k s C (fun h=>by omega) (fun _ _ _ _ _ _ _ _ h=>by omega) (fun _ fuel listed ax bw an g1 g2 g3 g4 g5 g6 g7=>?_);rw [al9] at g6;rw [ad'] at g7;rw [ad7] at a2 sr Bn;refine anE bJ cY dI (fun i o a6=>by obtain ⟨cR,_,z2,_⟩:=gC i o a6;exact z2) Bz Fk Fl (fun e=>by rw [e] at yF;omega) (fun e=>by rw [e] at yF;omega) (fun e=>by rw [e] at yD;omega) Q5 Q6
      JN Cl y7 a2 ca sr Bn g6 g7 (fun cm a2 b2 bW bV b8=>af cm a2 b2 (g5.trans bW) (by rw [wG];exact bV) b8) g2 g3 (fun cR mq=>by rw [SK] at mq;cases mq;exact al) ⟨akb,SK⟩ (fun m hm=>(g4 m hm).trans (afi m hm)) fuel ?_
     have I2:∀(L:Array Bool) (x:Nat),L.size=ops.size->x<ops.size->¬L.getD x false=true->(List.range ops.size).countP (fun k=>!(L.setIfInBounds x true).getD k false) < (List.range ops.size).countP (fun k=>!L.getD k false):=by
      intro L x eL ak aV;have zf:x<L.size:=by rw [eL];exact ak
      refine Ev (fun k=>!L.getD k false) (fun k=>!(L.setIfInBounds x true).getD k false) (List.range ops.size) (fun k _ aH=>?_) ⟨x,List.mem_range.2 ak,?_,?_⟩
      . simp only [Bool.not_eq_true'] at aH ⊢;cases aC:L.getD k false with
        | false=>rfl
        | true=>
          have:=(gb (k:=k) zf).2 (.inr aC);rw [aH] at this;cases this
      . cases aC:L.getD x false with
        | false=>rfl
        | true=>exact absurd aC aV
      . have:=(gb (k:=x) zf).2 (.inl rfl);simp [this]
     have ako:¬listed.getD my false=true:=fun h=>by have:=(g4 my tZ).1 h;omega
     have akm:¬listed.getD pf false=true:=fun h=>by have:=(g4 pf yC).1 h;omega
     have akn:¬listed.getD rj false=true:=fun h=>by have:=(g4 rj q2).1 h;omega
     have bP:=I2 listed my g2 tZ ako;have bX:=I2 (listed.setIfInBounds my true) pf (by simp [g2]) yC (fun h=>by
      rcases (gb (by rw [g2];exact tZ)).1 h with e | h
      . rw [e] at yD;omega
      . exact akm h)
     have c3:=I2 ((listed.setIfInBounds my true).setIfInBounds pf true) rj (by simp [g2]) q2 (fun h=>by
      rcases (gb (by simp [g2];exact yC)).1 h with e | h
      . rw [e] at tY;omega
      . rcases (gb (by rw [g2];exact tZ)).1 h with e | h
        . rw [e] at tY;omega
        . exact akn h)
     omega
end
section
variable {P:Program} {au:Nat} {ops:Array Oper} {call:dQ}
inductive pI {α β:Type} (R:α->β->Prop):List α->List β->Prop
 | nil:pI R [] []
 | cons {a:α} {b:β} {LA:List α} {LB:List β} (h:R a b) (t:pI R LA LB):pI R (a::LA) (b::LB)
def xi (ops:Array Oper) (t:Nat) (listed:Array Bool):Option Nat:=(Region.ready .any ops listed)[t % (Region.ready .any ops listed).length]?
theorem go_succ (fuel t:Nat) (listed:Array Bool):Region.linearise.go .any ops (fuel+1) t listed []=match xi ops t listed with
 | some i=>i::Region.linearise.go .any ops fuel (t / (Region.ready .any ops listed).length) (listed.setIfInBounds i true) []
 | none=>[]:=by
 simp only [Region.linearise.go];change (match (Region.ready .any ops listed)[t % (Region.ready .any ops listed).length]? with
  | some i=>Region.linearise.go .any ops fuel (t / (Region.ready .any ops listed).length) (listed.setIfInBounds i true) [i]
  | none=>[].reverse)=_
 unfold xi;cases (Region.ready .any ops listed)[t % (Region.ready .any ops listed).length]? with
 | none=>rfl
 | some i=>
   simp only;rw [linearise_go_acc,List.reverse_singleton,List.singleton_append]
theorem VW {t:Nat} {listed:Array Bool} (h:xi ops t listed=none):Region.ready .any ops listed=[]:=by
 unfold xi at h;cases aE:Region.ready .any ops listed with
 | nil=>rfl
 | cons x xs=>
   rw [aE] at h;have aO:t % (x::xs).length < (x::xs).length:=Nat.mod_lt _ (by simp);rw [List.getElem?_eq_getElem aO] at h;cases h
theorem MA {t i:Nat} {listed:Array Bool} (h:xi ops t listed=some i):i ∈ Region.ready .any ops listed:=List.mem_of_getElem? h
theorem count_set {listed:Array Bool} {i:Nat} (cq:listed.size=ops.size) (ao:i<ops.size) (aV:¬listed.getD i false=true):
 (List.range ops.size).countP (fun k=>!(listed.setIfInBounds i true).getD k false) < (List.range ops.size).countP (fun k=>!listed.getD k false):=by
 have aA:i<listed.size:=by rw [cq];exact ao
 refine Ev (fun k=>!listed.getD k false) (fun k=>!(listed.setIfInBounds i true).getD k false) (List.range ops.size) (fun k _ aH=>?_) ⟨i,List.mem_range.2 ao,?_,?_⟩
 . simp only [Bool.not_eq_true'] at aH ⊢;cases aC:listed.getD k false with
   | false=>rfl
   | true=>
     have:=(gb (k:=k) aA).2 (.inr aC);rw [aH] at this;cases this
 . cases aC:listed.getD i false with
   | false=>rfl
   | true=>exact absurd aC aV
 . have:=(gb (k:=i) aA).2 (.inl rfl);simp [this]
theorem R6 (iI:∀i o,ops[i]? =some o->mI i o=true):∀(fuel t:Nat) (listed:Array Bool),listed.size=ops.size->(List.range ops.size).countP (fun i=>!listed.getD i false)<=fuel->
 (Region.linearise.go .any ops fuel t listed []).Nodup/\(∀k ∈ Region.linearise.go .any ops fuel t listed [],k<ops.size/\¬listed.getD k false=true)/\
  ∀k,k<ops.size->listed.getD k false=true\/k ∈ Region.linearise.go .any ops fuel t listed []
 | 0,t,listed,cq,aD=>by
   have e:Region.linearise.go .any ops 0 t listed []=[]:=rfl;rw [e];refine ⟨List.nodup_nil,fun k aH=>by simp at aH,fun k aH=>.inl ?_⟩;have aW:(List.range ops.size).countP (fun i=>!listed.getD i false)=0:=by omega
   rw [List.countP_eq_zero] at aW;simpa using aW k (List.mem_range.2 aH)
 | fuel+1,t,listed,cq,aD=>by
   rw [go_succ];cases aE:xi ops t listed with
   | none=>
     simp only;exact ⟨List.nodup_nil,fun k aH=>by simp at aH,fun k aH=>.inl (zR iI cq (VW aE) k aH)⟩
   | some i=>
     simp only;obtain ⟨i1,i2⟩:=xj cq (MA aE);have aA:i<listed.size:=by rw [cq];exact i1
     have:=count_set cq i1 i2;obtain ⟨g1,g2,g3⟩:=R6 iI fuel (t / (Region.ready .any ops listed).length) (listed.setIfInBounds i true) (by simp [cq]) (by omega);refine ⟨List.nodup_cons.2 ⟨fun hm=>(g2 i hm).2 ((gb aA).2 (.inl rfl)),g1⟩,fun k aH=>?_,fun k aH=>?_⟩
     . rcases List.mem_cons.1 aH with rfl | aH
       . exact ⟨i1,i2⟩
       . exact ⟨(g2 k aH).1,fun h=>(g2 k aH).2 ((gb aA).2 (.inr h))⟩
     . rcases g3 k aH with h | h
       . rcases (gb aA).1 h with rfl | h
         . exact .inr (by simp)
         . exact .inl h
       . exact .inr (by simp [h])
theorem G6 {o:Oper} {os:List Oper} {r:bI} {h:ah} {es:List e2} {c8:bI} {az:ah} (he:(fO P au ops (o::os)).run call r h=.ok es c8 az):
 ∃v aa hX,(cG P au ops o).run call r h=.val v aa/\(fO P au ops os).run call ((fX o.dst).run r v) aa=.ok hX c8 az/\es=⟨r,h,v⟩::hX:=by
 simp only [fO,C6] at he;cases aa:(cG P au ops o).run call r h with
 | fail=>rw [aa] at he;cases he
 | cP _ _=>rw [aa] at he;simp only at he;cases hm:l4 o.op<;>rw [hm] at he<;>cases he
 | val v bl=>
   rw [aa] at he;simp only at he;cases ad:(fO P au ops os).run call ((fX o.dst).run r v) bl with
   | fail=>rw [ad] at he;cases he
   | cP _ _ _ _ _=>rw [ad] at he;cases he
   | ok hX br aJ=>
     rw [ad] at he;simp only [qG.ok.injEq] at he;obtain ⟨rfl,rfl,rfl⟩:=he;exact ⟨v,bl,hX,rfl,ad,rfl⟩
theorem G7 {o:Oper} {os:List Oper} {r:bI} {h aa:ah} {v:V} {hX:List e2} {c8:bI} {az:ah} (aW:(cG P au ops o).run call r h=.val v aa) (ad:(fO P au ops os).run call ((fX o.dst).run r v) aa=.ok hX c8 az):
 (fO P au ops (o::os)).run call r h=.ok (⟨r,h,v⟩::hX) c8 az:=by
 simp only [fO,C6,aW,ad]
theorem M1:∀(dZ eS:List Oper) {r:bI} {h:ah} {es:List e2} {c8:bI} {az:ah},(fO P au ops (dZ++eS)).run call r h=.ok es c8 az->
 ∃hX br aa qU,(fO P au ops dZ).run call r h=.ok hX br aa/\(fO P au ops eS).run call br aa=.ok qU c8 az/\es=hX++qU
 | [],eS,r,h,es,c8,az,he=>⟨[],r,h,es,rfl,he,rfl⟩
 | o::os,eS,r,h,es,c8,az,he=>by obtain ⟨v,aa,hX,ar,aw,rfl⟩:=G6 he;obtain ⟨Js,br,aJ,qU,g1,g2,rfl⟩:=M1 os eS aw;exact ⟨⟨r,h,v⟩::Js,br,aJ,qU,G7 ar g1,g2,rfl⟩
theorem M3:∀(dZ eS:List Oper) {r br c8:bI} {h aa az:ah} {hX qU:List e2},(fO P au ops dZ).run call r h=.ok hX br aa->(fO P au ops eS).run call br aa=.ok qU c8 az->
 (fO P au ops (dZ++eS)).run call r h=.ok (hX++qU) c8 az
 | [],eS,r,br,c8,h,aa,az,hX,qU,he,ad=>by simp only [fO,qG.ok.injEq] at he;obtain ⟨rfl,rfl,rfl⟩:=he;exact ad
 | o::os,eS,r,br,c8,h,aa,az,hX,qU,he,ad=>by obtain ⟨v,aJ,Js,ar,aw,rfl⟩:=G6 he;exact G7 ar (M3 os eS aw ad)
theorem CK:∀(a b:List Nat),hN ops (a++b)=hN ops a++hN ops b
 | [],b=>rfl
 | x::xs,b=>by simp [hN,CK xs b]
theorem VP:∀(l:List Oper),(∀o ∈ l,e' P o.op=false/\looks o.op=false)->∀{r c8:bI} {h az:ah} {es:List e2},(fO P au ops l).run call r h=.ok es c8 az->
 az=h/\∀H:ah,∃gw,(fO P au ops l).run call r H=.ok gw c8 H
 | [],_,r,c8,h,az,es,he=>by simp only [fO,qG.ok.injEq] at he;obtain ⟨rfl,rfl,rfl⟩:=he;exact ⟨rfl,fun H=>⟨[],rfl⟩⟩
 | o::os,aC,r,c8,h,az,es,he=>by obtain ⟨v,aa,hX,ar,aw,rfl⟩:=G6 he;obtain ⟨aP,bf⟩:=aC o (by simp);obtain ⟨d1,d2⟩:=vJ aP ar;subst d1;obtain ⟨g1,g2⟩:=VP os (fun cj hp=>aC cj (by simp [hp])) aw;refine ⟨g1,fun H=>?_⟩;obtain ⟨gw,g3⟩:=g2 H;exact ⟨_,G7 (d2 bf H) g3⟩
theorem B' {o:Oper} {A:xQ} (h:lW o=some A):o.op=.insert A.t A.m A.k A.x/\o.dst=none/\o.guard=none:=by
 unfold lW at h
 split at h
 case h_2=>cases h
 rename_i t m k x a6
 split at h
 case h_2=>cases h
 rename_i bb
 split at h
 case h_2=>cases h
 rename_i aB;cases h;exact ⟨a6,bb,aB⟩
theorem VK {e:dP} {k v:V} {c:Nat}:∀{es:List cI},(∀m ∈ es,e.run k m.k=some false)->kW e k v c es=some (es++[⟨k,v,c⟩],true)
 | [],_=>rfl
 | m::ms,h=>by simp only [kW,h m (by simp),cond_false,VK (es:=ms) fun dt nn=>h dt (by simp [nn]),List.cons_append]
theorem aci {o:Oper} {A:xQ} (yQ:Ch P A.t=true) (ng:lW o=some A) {r:bI} {H1 cp:ah} {v:V} (he:(cG P au ops o).run call r H1=.val v cp) {b:aQ} (ae:(bT A.m).run (dx r (b7 ops o))=.map b):
 ∀(H:ah) es c,H.get b=.mp es c->(∀m ∈ es,(uw P A.t).run ((bT A.k).run (dx r (b7 ops o))) m.k=some false)->
  (cG P au ops o).run call r H=.val .bad (H.set b (.mp (es++[⟨(bT A.k).run (dx r (b7 ops o)),(bT A.x).run (dx r (b7 ops o)),c⟩]) (c+1))):=by
 obtain ⟨a6,bb,aB⟩:=B' ng;obtain ⟨aa,ad⟩:=kH he;have key:cG P au ops o=⟨jj none (fw P o) (b7 ops o)⟩:=by unfold cG;rw [show (e7 au o.dst&&j2 (b7 ops o))=true from by rw [aa,ad];rfl,aB];rfl
 rw [key] at he ⊢;simp only [jj] at he ⊢;have wc:∀H,(fw P o).run call (dx r (b7 ops o)) H=hr .bad ((pG P A.t).run H (.map b) ((bT A.k).run (dx r (b7 ops o))) ((bT A.x).run (dx r (b7 ops o)))):=by intro H;unfold fw;rw [a6];simp only [ae]
 rw [wc] at he;have af4:pG P A.t=⟨k0 (uw P A.t)⟩:=by
  cases aS:(pG P A.t).run H1 (.map b) ((bT A.k).run (dx r (b7 ops o))) ((bT A.x).run (dx r (b7 ops o))) with
  | none=>rw [aS] at he;cases he
  | some aJ=>
    unfold pG at aS ⊢;unfold uw;cases av:a' P A.t with
    | none=>rw [av] at aS;cases aS
    | some aR=>
      rw [av] at aS;simp only at aS ⊢;cases bU:aR.bh<;>rw [bU] at aS<;>simp only at aS ⊢<;>try (cases aS;done)
      rename_i cA hz;cases oj:a' P cA with
      | none=>rw [oj] at aS;cases aS
      | some gO=>
        rw [oj] at aS;simp only at aS ⊢;cases az:kQ gO.bh with
        | false=>
          unfold Ch at yQ;rw [av] at yQ;simp only [bU,oj,az] at yQ;cases yQ
        | true=>rfl
 intro H es c lf aH;rw [wc,af4];simp only [k0,lf,cd.jZ,VK aH,hr,cond_true]
theorem agH {o:Oper} {r:bI} {b:aQ} {m:cI} (h:ur ops r b o=some m):∃A,lW o=some A/\(bT A.m).run (dx r (b7 ops o))=.map b/\m.k=(bT A.k).run (dx r (b7 ops o))/\m.v=(bT A.x).run (dx r (b7 ops o)):=by
 unfold ur at h;cases a1:lW o with
 | none=>rw [a1] at h;cases h
 | some A=>
   rw [a1] at h;simp only at h;cases hm:(bT A.m).run (dx r (b7 ops o))<;>rw [hm] at h<;>simp only at h<;>try (cases h;done)
   obtain ⟨aD,aa⟩:=eG h;have:=aQ.k_ aD;subst this;cases aa;exact ⟨A,rfl,hm,rfl,rfl⟩
def k2 (ops:Array Oper) (r:bI) (b:aQ) (i:Nat) (m:cI):Prop:=∃o,ops[i]? =some o/\ur ops r b o=some m
theorem k2.I9 {r:bI} {b:aQ} {i:Nat} {m dt:cI} (h:k2 ops r b i m) (ab:k2 ops r b i dt):m=dt:=by obtain ⟨o,aa,ad⟩:=h;obtain ⟨cj,aJ,bG⟩:=ab;rw [aa] at aJ;cases aJ;rw [ad] at bG;cases bG;rfl
theorem FX {r:bI} {b:aQ}:∀{is:List Nat} {ms:List cI},wQ ops r b is=some ms->pI (k2 ops r b) is ms
 | [],ms,h=>by simp only [wQ,Option.some.injEq] at h;subst h;exact .nil
 | i::is,ms,h=>by
   simp only [wQ] at h;cases a6:ops[i]? with
   | none=>rw [a6] at h;cases h
   | some o=>
     rw [a6] at h;simp only at h;cases hm:ur ops r b o with
     | none=>rw [hm] at h;cases h
     | some m=>
       rw [hm] at h;simp only at h;cases aS:wQ ops r b is with
       | none=>rw [aS] at h;cases h
       | some aqi=>
         rw [aS] at h;simp only [Option.some.injEq] at h;subst h;exact .cons ⟨o,a6,hm⟩ (FX aS)
theorem TG {x:Option Bool} (h:isFalse x=true):x=some false:=by
 cases x with
 | none=>cases h
 | some b=>cases b<;>simp_all [isFalse]
theorem Ic {e:dP} {m:cI}:∀{ms:List cI},D7 e m ms=true->∀dt ∈ ms,e.run m.k dt.k=some false/\e.run dt.k m.k=some false
 | [],_,dt,h=>by simp at h
 | x::xs,h,dt,hm=>by
   simp only [D7,Bool.and_eq_true] at h;rcases List.mem_cons.1 hm with rfl | hm
   . exact ⟨TG h.1,TG h.2.1⟩
   . exact Ic h.2.2 dt hm
theorem OX {r:bI} {b:aQ} {e:dP}:∀{is:List Nat} {ms:List cI},pI (k2 ops r b) is ms->is.Nodup->AT e ms=true->∀i j m dt,i ∈ is->j ∈ is->i≠j->k2 ops r b i m->k2 ops r b j dt->e.run m.k dt.k=some false
 | _,_,.nil,_,_,i,_,_,_,ao,_,_,_,_=>by simp at ao
 | _,_,.cons (a:=x) (b:=ed) (LA:=xs) (LB:=akl) aW av,aV,a1,i,j,m,dt,ao,aU,nj,hm,nn=>by
   simp only [AT,Bool.and_eq_true] at a1;rw [List.nodup_cons] at aV;have Tt:∀k n,k ∈ xs->k2 ops r b k n->n ∈ akl:=by
    intro k n aH yS;have gen:∀{is:List Nat} {ms:List cI},pI (k2 ops r b) is ms->k ∈ is->n ∈ ms:=by
     intro is ms az
     induction az with
     | nil=>intro aH;simp at aH
     | cons aa _ bq=>
       intro aH;rcases List.mem_cons.1 aH with rfl | aH
       . rw [yS.I9 aa];simp
       . exact List.mem_cons_of_mem _ (bq aH)
    exact gen av aH
   rcases List.mem_cons.1 ao with SC | ao
   . rcases List.mem_cons.1 aU with Kj | aU
     . exact absurd (SC.trans Kj.symm) nj
     . rw [SC] at hm;rw [hm.I9 aW];exact (Ic a1.1 dt (Tt j dt aU nn)).1
   . rcases List.mem_cons.1 aU with Kj | aU
     . rw [Kj] at nn;rw [nn.I9 aW];exact (Ic a1.1 m (Tt i m ao hm)).2
     . exact OX av aV.2 a1.2 i j m dt ao aU nj hm nn
theorem Lc {ju:bI} {b:aQ} {e:dP} {I:List Nat} (su:∀i ∈ I,∃o A m,ops[i]? =some o/\lW o=some A/\(Ch P A.t=true/\uw P A.t=e)/\ur ops ju b o=some m/\∃v H1 cp,(cG P au ops o).run call ju H1=.val v cp)
 (E9:∀i j m dt,i ∈ I->j ∈ I->i≠j->k2 ops ju b i m->k2 ops ju b j dt->e.run m.k dt.k=some false):
 ∀(τ:List Nat) (done:List Nat) (ds:List cI) (c:Nat) (H:ah),(∀i ∈ τ,i ∈ I)->(∀i ∈ done,i ∈ I)->(done++τ).Nodup->(∀m ∈ ds,∃i ∈ done,∃dt,k2 ops ju b i dt/\m.k=dt.k)->H.get b=.mp ds c->
  ∃es ms fS fb,(fO P au ops (hN ops τ)).run call ju H=.ok es ju fb/\fb.get b=.mp (ds++ms) fS/\(∀k,b≠k->fb.get k=H.get k)/\(∀k,fb.set b k=H.set b k)/\(∀e ∈ es,∀k,b≠k->e.h.get k=H.get k)/\
   pI (fun i (m:cI)=>∃dt,k2 ops ju b i dt/\m.k=dt.k/\m.v=dt.v) τ ms
 | [],done,ds,c,H,_,_,_,_,lf=>⟨[],[],c,H,rfl,by rw [List.append_nil];exact lf,fun _ _=>rfl,fun _=>rfl,fun e he=>by simp at he,.nil⟩
 | i::τ,done,ds,c,H,FQ,Su,nr,yJ,lf=>by
   obtain ⟨o,A,m,a6,ng,⟨yQ,wx⟩,hm,v,H1,cp,cZ⟩:=su i (FQ i (by simp));obtain ⟨jA,Sc,ae,aH,ak⟩:=agH hm;rw [ng] at Sc;cases Sc;have ra:i ∉ done:=fun h=>by rw [List.nodup_append] at nr;exact nr.2.2 i h i (by simp) rfl
   have h':=aci yQ ng cZ ae H ds c lf (fun dt nn=>by obtain ⟨j,aU,akh,aeI,Fo⟩:=yJ dt nn;rw [Fo,wx,<-aH];exact E9 i j m akh (FQ i (by simp)) (Su j aU) (fun e=>ra (e ▸ aU)) ⟨o,a6,hm⟩ aeI);obtain ⟨_,bb,_⟩:=B' ng;obtain ⟨es,ms,fS,fb,g1,g2,g3,g4,g6,g5⟩:=Lc su E9 τ (done++[i]) (ds++[⟨(bT A.k).run (dx ju (b7 ops o)),(bT A.x).run (dx ju (b7 ops o)),c⟩]) (c+1)
    (H.set b (.mp (ds++[⟨(bT A.k).run (dx ju (b7 ops o)),(bT A.x).run (dx ju (b7 ops o)),c⟩]) (c+1))) (fun j aU=>FQ j (by simp [aU]))
    (fun j aU=>by
      rcases List.mem_append.1 aU with h | h
      . exact Su j h
      . simp only [List.mem_singleton] at h;subst h;exact FQ j (by simp)) (by simpa using nr)
    (fun dt nn=>by
      rcases List.mem_append.1 nn with h | h
      . obtain ⟨j,aU,r⟩:=yJ dt h;exact ⟨j,by simp [aU],r⟩
      . simp only [List.mem_singleton] at h;subst h;exact ⟨i,by simp,m,⟨o,a6,hm⟩,aH.symm⟩) (by rw [ah.dC,if_pos rfl])
   have S':=G7 (os:=hN ops τ) h' (by rw [bb];exact g1);rw [show o::hN ops τ=hN ops (i::τ) from by simp [hN,a6]] at S';refine ⟨_,⟨(bT A.k).run (dx ju (b7 ops o)),(bT A.x).run (dx ju (b7 ops o)),c⟩::ms,fS,fb,S',by rw [g2,List.append_assoc];rfl,fun k aH=>?_,fun k=>?_,fun cX eQ k aH=>?_,.cons ⟨m,⟨o,a6,hm⟩,aH.symm,ak.symm⟩ g5⟩
   . rw [g3 k aH,ah.dC,if_neg aH]
   . rw [g4];unfold ah.set;simp only [T.VM]
   . rcases List.mem_cons.1 eQ with rfl | eQ
     . rfl
     . rw [g6 cX eQ k aH,ah.dC,if_neg aH]
def qK (E:Env):List (V × V)->List MapEntry->Prop
 | [],l=>l=[]
 | p::bm,l=>∃e es,l=e::es/\Rel E p.1 e.key/\Rel E p.2 e.val/\qK E bm es
theorem qK.perm {E:Env} {bm cv:List (V × V)} (h:bm.Perm cv):∀{l:List MapEntry},qK E cv l->∃fh,qK E bm fh/\fh.Perm l:=by
 induction h with
 | nil=>intro l h;exact ⟨l,h,.refl _⟩
 | cons x _ bq=>
   intro l h;obtain ⟨e,es,rfl,aa,ad,aJ⟩:=h;obtain ⟨fh,g1,g2⟩:=bq aJ;exact ⟨e::fh,⟨e,fh,rfl,aa,ad,g1⟩,g2.cons e⟩
 | swap x y fv=>
   intro l h;obtain ⟨e,es,rfl,aa,ad,cX,gw,rfl,aJ,bG,di⟩:=h;exact ⟨cX::e::gw,⟨cX,_,rfl,aJ,bG,e,gw,rfl,aa,ad,di⟩,List.Perm.swap _ _ _⟩
 | trans _ _ K9 K'=>
   intro l h;obtain ⟨dZ,g1,g2⟩:=K' h;obtain ⟨eS,g3,g4⟩:=K9 g1;exact ⟨eS,g3,g4.trans g2⟩
theorem qK.UY {E:Env}:∀{ms:List cI} {l:List MapEntry},eE E ms l->qK E (ms.map fun m=>(m.k,m.v)) l
 | [],l,h=>h
 | m::ms,l,h=>by obtain ⟨e,es,rfl,aa,ad,_,bG⟩:=h;exact ⟨e,es,rfl,aa,ad,qK.UY bG⟩
theorem n2.UZ {E:Env}:∀{ms:List cI} {l:List MapEntry},qK E (ms.map fun m=>(m.k,m.v)) l->n2 E ms l
 | [],l,h=>h
 | m::ms,l,h=>by obtain ⟨e,es,rfl,aa,ad,bG⟩:=h;exact ⟨e,es,rfl,aa,ad,n2.UZ bG⟩
theorem bd.forget {ay:Fr} {E:Env} {h:ah} {w:World} (s:bd ay E h w) {b:aQ} {p:jH} {es ms:List cI} {c:Nat} (aB:h.get b=.mp es c) (af:E b=some p) (hq:(ms.map fun m=>(m.k,m.v)).Perm (es.map fun m=>(m.k,m.v))):
 bd ay E (h.set b (.jW ms)) w:=by
 have ae:=s.at af;rw [aB] at ae;obtain ⟨p',a,gF,da,bl,hm⟩:=ae;rw [af] at gF;cases gF;obtain ⟨l,g1,g2⟩:=qK.perm hq (qK.UY hm);exact s.set (by rw [aB];rfl) af da (Nat.le_refl _) (fun _ _=>rfl) rfl rfl rfl (fun _ _ _ e=>by cases e) ⟨p,a,c,l,af,da,bl,n2.UZ g1,g2⟩
theorem TC:∀(l:List Oper),(∀o ∈ l,o.dst=none)->∀{r c8:bI} {h az:ah} {es:List e2},(fO P au ops l).run call r h=.ok es c8 az->∀o ∈ l,∃v H1 cp,(cG P au ops o).run call r H1=.val v cp
 | [],_,_,_,_,_,_,_,o,a6=>by simp at a6
 | x::xs,bb,r,c8,h,az,es,he,o,a6=>by
   obtain ⟨v,aa,hX,ar,aw,rfl⟩:=G6 he;rcases List.mem_cons.1 a6 with rfl | a6
   . exact ⟨v,h,aa,ar⟩
   . rw [bb x (by simp)] at aw;exact TC xs (fun cj hp=>bb cj (by simp [hp])) aw o a6
theorem ajZ {t:TypeId} {H H1:ah} {c:aQ} {off:Nat} (h:H.get c=H1.get c):(ql P t).run H (.ptr c off)=(ql P t).run H1 (.ptr c off):=by
 unfold ql;cases a' P t with
 | none=>rfl
 | some aR=>
   simp only;cases aR.agg with
   | true=>simp only [cond_true,nz,V.j0,h]
   | false=>
     simp only [cond_false];cases Nat.beq aR.size 1 with
     | true=>simp only [cond_true,nA,V.j0,h]
     | false=>rfl
theorem ack {o:Oper} {t:TypeId} {x:Operand} (a6:o.op=.load t x) (aB:o.guard=none) {r:bI} {H1 ab:ah} {v:V} (he:(cG P au ops o).run call r H1=.val v ab) {c:aQ} {off:Nat} (ak:(bT x).run (dx r (b7 ops o))=.ptr c off)
 (H:ah) (lf:H.get c=H1.get c):(cG P au ops o).run call r H=.val v H:=by
 obtain ⟨aa,ad⟩:=kH he;have key:cG P au ops o=⟨jj none (fw P o) (b7 ops o)⟩:=by unfold cG;rw [show (e7 au o.dst&&j2 (b7 ops o))=true from by rw [aa,ad];rfl,aB];rfl
 rw [key] at he ⊢;simp only [jj] at he ⊢;have wc:∀H,(fw P o).run call (dx r (b7 ops o)) H=a7.of H ((ql P t).run H (.ptr c off)):=by intro H;unfold fw;rw [a6];simp only [ak]
 rw [wc] at he ⊢;rw [ajZ lf];exact a7.w' he H
theorem Ui {es:List e2} {h:ah} {b:aQ}:∀{is:List Nat} {p:Nat},Ct P ops es h b call au is p=true->∀q i o t x,is[q]? =some i->ops[i]? =some o->o.op=.load t x->
 ∃e c off ab,es[p+q]? =some e/\(bT x).run (dx e.r (b7 ops o))=.ptr c off/\c≠b/\o.guard=none/\(cG P au ops o).run call e.r h=.val e.v ab
 | [],_,_,q,i,o,t,x,h,_,_=>by simp at h
 | j::agS,p,aA,q,i,o,t,x,aC,a6,hD=>by
   simp only [Ct] at aA;cases q with
   | succ q=>
     cases aU:ops[j]? with
     | none=>rw [aU] at aA;cases aA
     | some aqu=>
       rw [aU] at aA;simp only [Bool.and_eq_true] at aA;have:=Ui aA.2 q i o t x (by simpa using aC) a6 hD;rw [show p + (q+1)=p+1+q from by omega];exact this
   | zero=>
     simp only [List.getElem?_cons_zero,Option.some.injEq] at aC;subst aC;rw [a6] at aA;simp only [Bool.and_eq_true] at aA;have aa:=aA.1;rw [hD] at aa;simp only at aa;rw [Nat.add_zero];cases he:es[p]? with
     | none=>rw [he] at aa;cases aa
     | some e=>
       rw [he] at aa;simp only at aa;cases ak:(bT x).run (dx e.r (b7 ops o))<;>rw [ak] at aa<;>simp only at aa<;>try (cases aa;done)
       rename_i c off;simp only [Bool.and_eq_true,Bool.not_eq_true'] at aa;cases aB:o.guard with
       | some _=>rw [aB] at aa;cases aa.2
       | none=>
         rw [aB] at aa;simp only at aa;have ad:=aa.2;cases aE:(cG P au ops o).run call e.r h with
         | fail=>rw [aE] at ad;cases ad
         | cP _ _=>rw [aE] at ad;cases ad
         | val v ab=>
           rw [aE] at ad;have bj:=Jr ad;exact ⟨e,c,off,ab,rfl,ak,(fun e=>by rw [e,aQ.yn] at aa;cases aa.1),rfl,by rw [aE,bj]⟩
theorem zi {k:Nat}:∀{l:List Nat} {p:Nat},l.Nodup->l[p]? =some k->l.idxOf k=p
 | [],_,_,h=>by simp at h
 | x::xs,p,aV,h=>by
   rw [List.nodup_cons] at aV;cases p with
   | zero=>
     simp only [List.getElem?_cons_zero,Option.some.injEq] at h;subst h;simp
   | succ p=>
     have ak:xs[p]? =some k:=by simpa using h
     have ck:x≠k:=fun e=>aV.1 (e ▸ List.mem_of_getElem? ak);rw [List.idxOf_cons];simp only [beq_iff_eq,ck,cond_false,show (x == k)=false from by simpa using ck];rw [zi aV.2 ak]
def mz (ops:Array Oper) (i:Nat):Bool:=
 match ops[i]? with
 | some o=>lj o
 | none=>false
theorem FZ {o:Oper} {A:xQ} (h:lW o=some A):lj o=true/\e' P o.op=true/\hb o=false:=by obtain ⟨a6,_,_⟩:=B' h;refine ⟨by unfold lj;rw [a6],by rw [a6];rfl,by unfold hb;rw [a6]⟩
theorem ajO {aF:List Nat} {cD cT:Nat} {t:TypeId} (az:Cr P ops aF cD cT t=true):∀i o,ops[i]? =some o->∃cR,(eT [] ops.toList)[i]? =some cR/\mI i o=true/\
 (∀k ok,ops[k]? =some ok->∃mk,(eT [] ops.toList)[k]? =some mk/\pv i cR (b7 ops o) o.dst k mk ok (Nat.blt (posOf aF k) (posOf aF i))=true)/\
 (posOf aF i<cD->lj o=false/\ei P o=false/\(looks o.op=true->e' P o.op=false->∃t x,o.op=.load t x))/\
 (¬posOf aF i<cD->posOf aF i<cT->∃A,lW o=some A/\A.t=t)/\
 (¬posOf aF i<cD->¬posOf aF i<cT->e' P o.op=false/\looks o.op=false):=by
 unfold Cr at az;simp only [Bool.and_eq_true] at az;replace az:=az.2;intro i o ao;obtain ⟨cR,aa,ad⟩:=qE az i o (by simpa using ao);simp only [Nat.zero_add,Bool.and_eq_true] at ad;obtain ⟨⟨aJ,bG⟩,di⟩:=ad;refine ⟨cR,aa,aJ,fun k ok aH=>?_,fun aO=>?_,fun jl aO=>?_,fun jl aeQ=>?_⟩
 . obtain ⟨mk,bz,bx⟩:=qE bG k ok (by simpa using aH);simp only [Nat.zero_add] at bx;exact ⟨mk,bz,bx⟩
 . rw [show Nat.blt (posOf aF i) cD=true from by rw [Nat.blt_eq];exact aO] at di;simp only [cond_true,Bool.and_eq_true,Bool.not_eq_true',Bool.or_eq_true] at di;refine ⟨di.1.1,di.1.2,fun aA he=>?_⟩;rcases di.2 with (h | h) | h
   . rw [aA] at h;cases h
   . rw [he] at h;cases h
   . cases hD:o.op<;>rw [hD] at h<;>simp only at h<;>first
      | (cases h;done)
      | exact ⟨_,_,rfl⟩
 . rw [show Nat.blt (posOf aF i) cD=false from by rw [<-Bool.not_eq_true,Nat.blt_eq];exact jl,show Nat.blt (posOf aF i) cT=true from by rw [Nat.blt_eq];exact aO] at di;simp only [cond_true,cond_false] at di;cases a1:lW o with
   | none=>rw [a1] at di;cases di
   | some A=>rw [a1] at di;exact ⟨A,rfl,Nat.eq_of_beq_eq_true di⟩
 . rw [show Nat.blt (posOf aF i) cD=false from by rw [<-Bool.not_eq_true,Nat.blt_eq];exact jl,show Nat.blt (posOf aF i) cT=false from by rw [<-Bool.not_eq_true,Nat.blt_eq];exact aeQ] at di;simp only [cond_false,Bool.and_eq_true,Bool.not_eq_true'] at di;exact di
theorem ajP {order:List Nat} {es:List e2} {cD:Nat} {b:aQ} {ju:bI} {A:xQ} (h:F_ ops order es cD=some (b,ju,A)):
 ∃e i o,es[cD]? =some e/\order[cD]? =some i/\ops[i]? =some o/\lW o=some A/\e.r=ju:=by
 unfold F_ at h;cases he:es[cD]? with
 | none=>rw [he] at h;cases h
 | some e=>
   rw [he] at h;simp only at h;cases ao:order[cD]? with
   | none=>rw [ao] at h;cases h
   | some i=>
     rw [ao] at h;simp only at h;cases a6:ops[i]? with
     | none=>rw [a6] at h;cases h
     | some o=>
       rw [a6] at h;simp only at h;cases a1:lW o with
       | none=>rw [a1] at h;cases h
       | some jA=>
         rw [a1] at h;simp only at h;cases hm:(bT jA.m).run (dx e.r (b7 ops o))<;>rw [hm] at h<;>simp only at h<;>try (cases h;done)
         simp only [Option.some.injEq,Prod.mk.injEq] at h;obtain ⟨_,ad,rfl⟩:=h;exact ⟨e,i,o,rfl,rfl,a6,a1,ad⟩
theorem Ur {r:bI} {b:aQ} {f:Nat->V × V} (az:∀i m,k2 ops r b i m->f i=(m.k,m.v)):∀{is:List Nat} {ms:List cI},pI (fun i (m:cI)=>∃dt,k2 ops r b i dt/\m.k=dt.k/\m.v=dt.v) is ms->ms.map (fun m=>(m.k,m.v))=is.map f
 | _,_,.nil=>rfl
 | _,_,.cons (a:=i) (b:=m) aW av=>by obtain ⟨dt,aa,ad,aJ⟩:=aW;simp only [List.map_cons,Ur az av,az i dt aa,ad,aJ]
theorem zO {n:Nat} {order aF:List Nat} (hq:l9 n order aF=true) {p i:Nat} (h:order[p]? =some i):posOf aF i=p/\i<n:=by unfold l9 at hq;simp only [Bool.and_eq_true,Nat.beq_eq] at hq;obtain ⟨_,ad,_,bG⟩:=hq;have:=uK bG h;rw [Nat.zero_add] at this;refine ⟨by unfold posOf;rw [this];rfl,?_⟩;have:=(List.getElem?_eq_some_iff.1 this).1;omega
theorem akI {l:List Nat} {f:Nat->Nat} (h:∀p i,l[p]? =some i->f i=p):l.Nodup:=by rw [List.Nodup,List.pairwise_iff_getElem];intro i j ao aU nj he;have aa:=h i _ (List.getElem?_eq_getElem ao);have ad:=h j _ (List.getElem?_eq_getElem aU);rw [he,ad] at aa;omega
theorem pI.left {α β:Type} {R:α->β->Prop}:∀{dZ:List α} {eS:List β},pI R dZ eS->∀x ∈ dZ,∃y ∈ eS,R x y
 | _,_,.nil,x,h=>by simp at h
 | _,_,.cons aW av,x,h=>by
   rcases List.mem_cons.1 h with rfl | h
   . exact ⟨_,by simp,aW⟩
   . obtain ⟨y,aa,ad⟩:=av.left x h;exact ⟨y,by simp [aa],ad⟩
theorem agO {o:Oper} (h:lj o=true):e' P o.op=true/\hb o=false:=by
 unfold lj at h;unfold hb;cases a6:o.op<;>rw [a6] at h<;>simp only at h<;>first
  | (cases h;done)
  | exact ⟨rfl,rfl⟩
theorem anP {pre σ post:List Nat} (nr:(pre++(σ++post)).Nodup) (k q:Nat):(pre[q]? =some k->(pre++(σ++post)).idxOf k=q)/\(σ[q]? =some k->(pre++(σ++post)).idxOf k=pre.length+q)/\(post[q]? =some k->(pre++(σ++post)).idxOf k=pre.length+σ.length+q):=by
 refine ⟨fun h=>zi nr ?_,fun h=>zi nr ?_,fun h=>zi nr ?_⟩
 . have:=(List.getElem?_eq_some_iff.1 h).1;rw [List.getElem?_append_left this];exact h
 . have:=(List.getElem?_eq_some_iff.1 h).1;rw [List.getElem?_append_right (by omega),Nat.add_sub_cancel_left,List.getElem?_append_left this];exact h
 . rw [List.getElem?_append_right (by omega),List.getElem?_append_right (by omega)];rw [show pre.length+σ.length+q-pre.length-σ.length=q from by omega];exact h
theorem ajS {rd:Option Nat} {D:List Deferred} {ay:Fr} {calls:Nat->dQ} {es:List e2} {bt:bI} {aW:ah} {c8:bI} {az:ah} {ez order aF:List Nat} (bJ:eO P) (cY:∀i,hi P (calls i)) (dI:∀i,ht P (calls i))
 (C:Cert P au ops calls es bt aW c8 az ez order aF ops.size ops.size true) {fl:Env} {Q:Exit->Act->World->Prop}
 (cM:∀ax bw an,fl.le ax->RegRel0 ax au c8 bw->bw.defers=D->bd ay ax az an->Q .normal bw an) {tA:List Nat}
 (dn:∀i k,mz ops i=true->mz ops k=true->posOf aF k<posOf aF i->∀a b,tA=a++i::b->k ∈ a):
 ∀(fuel t:Nat) (listed:Array Bool) (done:List Nat) (a:Act) (w:World),tA=done++Region.linearise.go .any ops fuel t listed []->(∀k,k<ops.size->(listed.getD k false=true↔k ∈ done))->
  (List.range ops.size).countP (fun i=>!listed.getD i false)<=fuel->qF P ay au ops es bt az ez aF fl ops.size D listed a w->wpOpsIn (cw rd) 0 P ops Q (Region.linearise.go .any ops fuel t listed []) a w:=by
 have iI:∀i o,ops[i]? =some o->mI i o=true:=fun i o h=>by obtain ⟨_,_,ad,_⟩:=C.j5 i o h;exact ad
 have fin:∀(listed:Array Bool) (a:Act) (w:World),(∀k,k<ops.size->listed.getD k false=true)->qF P ay au ops es bt az ez aF fl ops.size D listed a w->Q .normal a w:=by intro listed a w ec I;obtain ⟨ax,g1,g2,g3,g4⟩:=Ra C (Nat.le_refl _) I fun k aH _=>ec k aH;exact cM ax a w g1 g2 g3 g4
 intro fuel
 induction fuel with
 | zero=>
   intro t listed done a w oe Kp aD I;have aW:(List.range ops.size).countP (fun i=>!listed.getD i false)=0:=by omega
   rw [List.countP_eq_zero] at aW;exact fin listed a w (fun k aH=>by simpa using aW k (List.mem_range.2 aH)) I
 | succ fuel bq=>
   intro t listed done a w oe Kp aD I;rw [go_succ] at oe ⊢;cases aE:xi ops t listed with
   | none=>exact fin listed a w (fun k aH=>zR iI I.sU (VW aE) k aH) I
   | some i=>
     rw [aE] at oe;simp only at oe ⊢;obtain ⟨i1,i2⟩:=xj I.sU (MA aE);have aA:i<listed.size:=by rw [I.sU];exact i1
     have apG:=count_set I.sU i1 i2;rw [wpOpsIn_cons];refine Rl bJ cY dI C I (MA aE) (C.iz i i1).1 (fun _ o k ok cz wu Fp ae8 aO=>?_) (fun bw an HE=>bq _ _ (done++[i]) bw an (by rw [List.append_assoc];exact oe) (fun k aH=>?_) (by omega) HE) (fun _ _ _ _ _ _ _ h=>absurd h (Nat.lt_irrefl _))
     . have aH:k<ops.size:=(Array.getElem?_eq_some_iff.1 Fp).1;exact (Kp k aH).2 (dn i k (by unfold mz;rw [cz];exact wu) (by unfold mz;rw [Fp];exact ae8) aO _ _ oe)
     . rw [gb aA,Kp k aH,List.mem_append,List.mem_singleton];exact Or.comm
def Jo (ops:Array Oper) (r:bI) (b:aQ) (i:Nat):V × V:=
 match ops[i]? with
 | some o=>(match ur ops r b o with
   | some m=>(m.k,m.v)
   | none=>(.bad,.bad))
 | none=>(.bad,.bad)
theorem Rs {r:bI} {b:aQ} {i:Nat} {m:cI} (h:k2 ops r b i m):Jo ops r b i=(m.k,m.v):=by obtain ⟨o,aa,ad⟩:=h;unfold Jo;rw [aa];simp only [ad]
theorem Us {r:bI} {b:aQ}:∀{is:List Nat} {ms:List cI},pI (k2 ops r b) is ms->ms.map (fun m=>(m.k,m.v))=is.map (Jo ops r b)
 | _,_,.nil=>rfl
 | _,_,.cons aW av=>by simp only [List.map_cons,Us av,Rs aW]
theorem ajU {rd:Option Nat} {ay:Fr} {E:Env} {h:ah} {w:World} {id:Nat} (dz:P.follows .mixedOrders=true) (bJ:eO P) (cY:hi P call) (dI:ht P call) {r:bI} {a:Act} {order aF:List Nat} {cD cT:Nat} (hq:l9 ops.size order aF=true)
 {Q:Exit->Act->World->Prop} (af:nY ay E au (Q .normal) Q (Lu P au ops order aF cD cT (fO P au ops (hN ops order)) call r h)) (k:fF E au r a) (s:bd ay E h w):(Code.region id ops true).wpIn (cw rd) 0 P Q a w:=by
 unfold Lu at af;cases cZ:(fO P au ops (hN ops order)).run call r h with
 | fail=>rw [cZ] at af;exact af.elim
 | cP _ _ _ _ _=>rw [cZ] at af;exact af.elim
 | ok es eZ bl=>
 rw [cZ] at af;simp only at af;cases np:F_ ops order es cD with
 | none=>rw [np] at af;exact af.elim
 | some x=>
 obtain ⟨b,ju,A⟩:=x;rw [np] at af;simp only at af;cases kp:(cn es bl cD).get b<;>rw [kp] at af<;>try (exact False.elim af)
 rename_i acM tI;cases acM with
 | cons _ _=>exact False.elim af
 | nil=>
 simp only at af;cases yW:wQ ops ju b ((order.drop cD).take (cT-cD)) with
 | none=>rw [yW] at af;exact af.elim
 | some ms=>
 rw [yW] at af;simp only at af;cases aD:(Cr P ops aF cD cT A.t&&(AT (uw P A.t) ms&&(Ct P ops es (cn es bl cD) b call au (order.take cD) 0&&Bi ((bT A.m).run eZ) (.map b)))) with
 | false=>rw [aD] at af;exact af.elim
 | true=>
 rw [aD] at af;simp only [cond_true] at af;simp only [Bool.and_eq_true] at aD;obtain ⟨Ft,E9,ey,sz⟩:=aD;have sz:=Jr sz;obtain ⟨ks,Vq,aqA⟩:=Vm hq;have KA:order.Nodup:=akI fun p i h=>(zO hq h).1;obtain ⟨c_,i0,iw,J5,wq,afr,Bn,aeJ⟩:=ajP np;obtain ⟨al5,-,-,-⟩:=uX cZ;have hlen:es.length=ops.size:=by rw [al5,qo,ks]
 have jn:cD<ops.size:=by rw [<-ks];exact (List.getElem?_eq_some_iff.1 wq).1
 have j5:=ajO Ft;generalize pb:order.take cD=pre at ey;generalize wu:(order.drop cD).take (cT-cD)=ins at yW;generalize SZ:(order.drop cD).drop (cT-cD)=post;have p7:order=pre++(ins++post):=by rw [<-pb,<-wu,<-SZ,List.take_append_drop,List.take_append_drop]
 have y0:pre.length=cD:=by rw [<-pb,List.length_take];omega
 have apT:cD<cT:=by
  obtain ⟨wC,_⟩:=zO hq wq;rcases Nat.lt_or_ge cD cT with h | h
  . exact h
  . exfalso;obtain ⟨_,_,_,_,_,_,f3⟩:=j5 i0 iw afr;obtain ⟨ak,_⟩:=f3 (by omega) (by omega);rw [(FZ (P:=P) Bn).2.1] at ak;cases ak
 have ae3:ins.length=cT-cD\/post=[]:=by
  rcases Nat.lt_or_ge (cT-cD) (order.drop cD).length with h | h
  . left;rw [<-wu,List.length_take];omega
  . right;rw [<-SZ];exact List.drop_eq_nil_of_le h
 have Il:∀q i,pre[q]? =some i->posOf aF i=q/\i<ops.size/\q<cD:=by intro q i h;have aC:=(List.getElem?_eq_some_iff.1 h).1;obtain ⟨aa,ad⟩:=zO hq (p:=q) (i:=i) (by rw [p7,List.getElem?_append_left aC];exact h);exact ⟨aa,ad,by omega⟩
 have Ij:∀q i,ins[q]? =some i->posOf aF i=cD+q/\i<ops.size/\cD+q<cT:=by
  intro q i h;have aC:=(List.getElem?_eq_some_iff.1 h).1;obtain ⟨aa,ad⟩:=zO hq (p:=cD+q) (i:=i) (by rw [p7,List.getElem?_append_right (by omega),y0,Nat.add_sub_cancel_left,List.getElem?_append_left aC];exact h);refine ⟨aa,ad,?_⟩;have:ins.length<=cT-cD:=by rw [<-wu,List.length_take];omega
  omega
 have Ik:∀q i,post[q]? =some i->posOf aF i=cD+ins.length+q/\i<ops.size/\ins.length=cT-cD:=by
  intro q i h;have aA:ins.length=cT-cD:=by
   rcases ae3 with ab | ab
   . exact ab
   . rw [ab] at h;simp at h
  obtain ⟨aa,ad⟩:=zO hq (p:=cD+ins.length+q) (i:=i) (by rw [p7,List.getElem?_append_right (by omega),List.getElem?_append_right (by omega),y0,show cD+ins.length+q-cD-ins.length=q from by omega];exact h);exact ⟨aa,ad,aA⟩
 have XB:∀i,i<ops.size->(∃q:Nat,pre[q]? =some i)\/(∃q:Nat,ins[q]? =some i)\/∃q:Nat,post[q]? =some i:=by
  intro i ao;have hm:i ∈ order:=List.mem_of_getElem? (Vq i ao).2;rw [p7,List.mem_append,List.mem_append] at hm;rcases hm with h | h | h
  . exact .inl (List.mem_iff_getElem?.1 h)
  . exact .inr (.inl (List.mem_iff_getElem?.1 h))
  . exact .inr (.inr (List.mem_iff_getElem?.1 h))
 have Mf:∀i o,i ∈ pre->ops[i]? =some o->lj o=false/\ei P o=false/\(looks o.op=true->e' P o.op=false->∃t x,o.op=.load t x):=by intro i o ao a6;obtain ⟨q,aC⟩:=List.mem_iff_getElem?.1 ao;obtain ⟨aa,ad,aJ⟩:=Il q i aC;obtain ⟨_,_,_,_,f1,_,_⟩:=j5 i o a6;exact f1 (by omega)
 have B_:∀i,i ∈ ins->∃o jA,ops[i]? =some o/\lW o=some jA/\jA.t=A.t:=by intro i ao;obtain ⟨q,aC⟩:=List.mem_iff_getElem?.1 ao;obtain ⟨aa,ad,aJ⟩:=Ij q i aC;obtain ⟨_,_,_,_,_,f2,_⟩:=j5 i _ (Array.getElem?_eq_getElem ad);obtain ⟨jA,g1,g2⟩:=f2 (by omega) (by omega);exact ⟨_,jA,Array.getElem?_eq_getElem ad,g1,g2⟩
 have CU:∀i o,i ∈ post->ops[i]? =some o->e' P o.op=false/\looks o.op=false:=by intro i o ao a6;obtain ⟨q,aC⟩:=List.mem_iff_getElem?.1 ao;obtain ⟨aa,ad,aJ⟩:=Ik q i aC;obtain ⟨_,_,_,_,_,_,f3⟩:=j5 i o a6;exact f3 (by omega) (by omega)
 have K_:∀i,i<ops.size->(mz ops i=true↔i ∈ ins):=by
  intro i ao;have cz:ops[i]? =some ops[i]:=Array.getElem?_eq_getElem ao;constructor
  . intro h;unfold mz at h;rw [cz] at h;simp only at h;rcases XB i ao with ⟨q,aC⟩ | ⟨q,aC⟩ | ⟨q,aC⟩
    . rw [(Mf i _ (List.mem_of_getElem? aC) cz).1] at h;cases h
    . exact List.mem_of_getElem? aC
    . have:=(CU i _ (List.mem_of_getElem? aC) cz).1;rw [(agO (P:=P) h).1] at this;cases this
  . intro h;obtain ⟨o,jA,g1,g2,_⟩:=B_ i h;unfold mz;rw [g1];exact (FZ (P:=P) g2).1
 have KB:ins.Nodup:=by rw [p7] at KA;exact (List.nodup_append.1 (List.nodup_append.1 KA).2.1).1
 have BT:=cZ;rw [p7,CK,CK] at BT;obtain ⟨hX,br,aa,acN,sF,S1,o9⟩:=M1 _ _ BT;obtain ⟨qU,cF,ad,Js,lR,afF,apK⟩:=M1 _ _ S1;obtain ⟨dZ,-,-,-⟩:=uX sF;rw [qo,y0] at dZ;obtain ⟨-,b3,b2,-⟩:=uX S1;have Sw:acN[0]? =some c_:=by rw [o9,List.getElem?_append_right (by omega),dZ,Nat.sub_self] at J5;exact J5
 have afH:br=ju:=by unfold et at b2;rw [Sw] at b2;exact b2.symm.trans aeJ
 have aeW:cn es bl cD=aa:=by unfold cn at b3 ⊢;rw [J5];rw [Sw] at b3;exact b3
 subst afH;rw [aeW] at kp ey;have su:∀i ∈ ins,∃o jA m,ops[i]? =some o/\lW o=some jA/\(Ch P jA.t=true/\uw P jA.t=uw P A.t)/\ur ops br b o=some m/\∃v H1 cp,(cG P au ops o).run call br H1=.val v cp:=by
  intro i ao;obtain ⟨o,jA,g1,g2,g3⟩:=B_ i ao;obtain ⟨m,_,cj,g4,g5⟩:=(FX yW).left i ao;rw [g1] at g4;cases g4;refine ⟨o,jA,m,g1,g2,⟨by rw [g3];unfold Cr at Ft;rw [Bool.and_eq_true] at Ft;exact Ft.1,by rw [g3]⟩,g5,TC (hN ops ins) (fun dp ns=>?_) lR o ?_⟩
  . obtain ⟨q,aC⟩:=List.mem_iff_getElem?.1 ns;have re:q<ins.length:=by rw [<-qo (ops:=ops)];exact (List.getElem?_eq_some_iff.1 aC).1
    obtain ⟨aqq,pH,Cf,wS,_⟩:=B_ _ (List.getElem_mem re);have:=nD (List.getElem?_eq_getElem re) Cf;rw [aC] at this;cases this;exact (B' wS).2.1
  . obtain ⟨q,aC⟩:=List.mem_iff_getElem?.1 ao;exact List.mem_of_getElem? (nD aC g1)
 have E':=OX (FX yW) KB E9;obtain ⟨apr,aqj,apj,mQ,JC,apu,apv,adj,_,apw⟩:=Lc su E' ins [] [] tI aa (fun i ao=>ao) (fun i ao=>by simp at ao) (by simpa using KB) (fun m hm=>by simp at hm) kp;rw [lR] at JC;simp only [qG.ok.injEq] at JC;obtain ⟨-,afE,ad4⟩:=JC;subst afE ad4;obtain ⟨Kh,afD⟩:=VP (hN ops post) (fun dp ns=>by
  obtain ⟨q,aC⟩:=List.mem_iff_getElem?.1 ns;have re:q<post.length:=by rw [<-qo (ops:=ops)];exact (List.getElem?_eq_some_iff.1 aC).1
  obtain ⟨_,SE,_⟩:=Ik q _ (List.getElem?_eq_getElem re);have:=nD (List.getElem?_eq_getElem re) (Array.getElem?_eq_getElem SE);rw [aC] at this;cases this;exact CU _ _ (List.getElem_mem re) (Array.getElem?_eq_getElem SE)) afF
 subst Kh;refine wpIn_region_draw fun t=>?_;simp only [Region.schedule,dz,Bool.true_or,if_true];have iI:∀i o,ops[i]? =some o->mI i o=true:=fun i o h=>by obtain ⟨_,_,ad,_⟩:=j5 i o h;exact ad
 have dE:∀k,¬(Array.replicate ops.size false).getD k false=true:=by
  intro k;rw [tW,Array.getElem?_replicate]
  split<;>simp
 obtain ⟨s1,s2,ma⟩:=R6 (ops:=ops) iI ops.size t (Array.replicate ops.size false) (by simp) (Nat.le_trans List.countP_le_length (by simp));change wpOpsIn (cw rd) 0 P ops Q (Region.linearise.go .any ops ops.size t (Array.replicate ops.size false) []) a {w with drawn:=w.drawn+1};generalize oe:Region.linearise.go .any ops ops.size t (Array.replicate ops.size false) []=tA at s1 s2 ma;generalize K5:tA.filter (mz ops)=σ;have LI:∀k,k ∈ σ↔k ∈ ins:=by
  intro k;rw [<-K5,List.mem_filter];constructor
  . rintro ⟨g1,g2⟩;exact (K_ k (s2 k g1).1).1 g2
  . intro g;obtain ⟨q,aC⟩:=List.mem_iff_getElem?.1 g;have aH:=(Ij q k aC).2.1;refine ⟨?_,(K_ k aH).2 g⟩;rcases ma k aH with h | h
    . exact absurd h (dE k)
    . exact h
 have SQ:σ.Nodup:=by rw [<-K5];exact s1.filter _
 have KL:σ.Perm ins:=(List.perm_ext_iff_of_nodup SQ KB).2 LI;have To:σ.length=ins.length:=KL.length_eq;have lQ:(pre++(σ++post)).Perm order:=by rw [p7];exact (KL.append_right post).append_left pre
 have KC:(pre++(σ++post)).Nodup:=lQ.nodup_iff.2 KA;have BE:(pre++(σ++post)).length=ops.size:=by rw [lQ.length_eq,ks]
 have Eb:=anP KC;generalize afy:(List.range ops.size).map (fun k=>(pre++(σ++post)).idxOf k)=kV;have yZ:∀k,k<ops.size->posOf kV k=(pre++(σ++post)).idxOf k:=by intro k aH;rw [<-afy];unfold posOf;rw [List.getElem?_map,List.getElem?_range aH];rfl
 have CO:∀i,i<ops.size->i ∈ pre->posOf kV i=posOf aF i/\posOf aF i<cD:=by intro i ao hm;obtain ⟨q,aC⟩:=List.mem_iff_getElem?.1 hm;obtain ⟨g1,_,g3⟩:=Il q i aC;rw [yZ i ao,(Eb i q).1 aC,g1];exact ⟨rfl,g3⟩
 have CN:∀i,i<ops.size->i ∈ ins->∃q:Nat,σ[q]? =some i/\posOf kV i=cD+q/\q<ins.length/\cD<=posOf aF i/\posOf aF i<cD+ins.length:=by intro i ao hm;obtain ⟨q,aC⟩:=List.mem_iff_getElem?.1 ((LI i).2 hm);obtain ⟨dV,oo⟩:=List.mem_iff_getElem?.1 hm;obtain ⟨g1,_,g3⟩:=Ij dV i oo;have:=(List.getElem?_eq_some_iff.1 aC).1;have:=(List.getElem?_eq_some_iff.1 oo).1;exact ⟨q,aC,by rw [yZ i ao,(Eb i q).2.1 aC,y0],by omega,by omega,by omega⟩
 have L_:∀i,i<ops.size->i ∈ post->posOf kV i=posOf aF i/\cD+ins.length<=posOf aF i:=by intro i ao hm;obtain ⟨q,aC⟩:=List.mem_iff_getElem?.1 hm;obtain ⟨g1,_,_⟩:=Ik q i aC;rw [yZ i ao,(Eb i q).2.2 aC,g1,To,y0];exact ⟨rfl,by omega⟩
 have cls:∀i,i<ops.size->i ∈ pre\/i ∈ ins\/i ∈ post:=by
  intro i ao;rcases XB i ao with ⟨q,aC⟩ | ⟨q,aC⟩ | ⟨q,aC⟩
  . exact .inl (List.mem_of_getElem? aC)
  . exact .inr (.inl (List.mem_of_getElem? aC))
  . exact .inr (.inr (List.mem_of_getElem? aC))
 obtain ⟨vQ,aqk,IV,Ar,RW,adl,adm,adn,adp,ado⟩:=Lc su E' σ [] [] tI aa (fun i ao=>(LI i).1 ao) (fun i ao=>by simp at ao) (by simpa using SQ) (fun m hm=>by simp at hm) kp;obtain ⟨yr,afG⟩:=afD Ar;have S6:=M3 _ _ sF (M3 _ _ RW afG);rw [<-CK,<-CK] at S6;obtain ⟨ajg,-,-,-⟩:=uX RW;rw [qo,To] at ajg;obtain ⟨b6,z2,z3,z4⟩:=uX S6;rw [qo,BE] at b6;have Vr:∀k,k<ops.size->posOf kV k<ops.size/\(pre++(σ++post))[posOf kV k]? =some k:=by intro k aH;have hm:k ∈ pre++(σ++post):=lQ.mem_iff.2 (List.mem_of_getElem? (Vq k aH).2);obtain ⟨q,aC⟩:=List.mem_iff_getElem?.1 hm;have KN:=zi KC aC;rw [yZ k aH,KN];have:=(List.getElem?_eq_some_iff.1 aC).1;exact ⟨by omega,aC⟩
 have alp:∀p,p<ops.size->∃i,i<ops.size/\posOf kV i=p:=by intro p af;have aC:(pre++(σ++post))[p]? =some ((pre++(σ++post))[p]'(by omega)):=List.getElem?_eq_getElem _;have hm:(pre++(σ++post))[p]'(by omega) ∈ order:=lQ.mem_iff.1 (List.getElem_mem _);obtain ⟨q,y1⟩:=List.mem_iff_getElem?.1 hm;have aO:=(zO hq y1).2;exact ⟨_,aO,by rw [yZ _ aO];exact zi KC aC⟩
 have QS:∀j o,ops[j]? =some o->ei P o=true->j ∈ ins:=by
  intro j o a6 ml;rcases cls j (Array.getElem?_eq_some_iff.1 a6).1 with h | h | h
  . rw [(Mf j o h a6).2.1] at ml;cases ml
  . exact h
  . unfold ei at ml;rw [(CU j o h a6).1] at ml;cases ml
 have La:∀k ok,k ∈ ins->ops[k]? =some ok->ok.dst=none/\lj ok=true:=by intro k ok aH bK;obtain ⟨o,jA,g1,g2,_⟩:=B_ k aH;rw [bK] at g1;cases g1;exact ⟨(B' g2).2.1,(FZ (P:=P) g2).1⟩
 have ZQ:∀st,st=ops.size\/(∃k,k<ops.size/\k ∈ ins/\st=posOf kV k)->∀c,b≠c->(cn (hX++(vQ++yr)) Ar st).get c=aa.get c:=by
  rintro st (rfl | ⟨k,aH,g_,rfl⟩) c aD
  . unfold cn;rw [List.getElem?_eq_none (by omega)];exact adm c aD
  . obtain ⟨q,_,g2,g3,_⟩:=CN k aH g_;have KO:q<vQ.length:=by omega
    unfold cn;rw [g2,List.getElem?_append_right (by omega),dZ,Nat.add_sub_cancel_left,List.getElem?_append_left KO,List.getElem?_eq_getElem KO];exact adp _ (List.getElem_mem KO) c aD
 have C:Cert P au ops (fun _=>call) (hX++(vQ++yr)) r h eZ Ar (h0 P kV 0 ops.toList) (pre++(σ++post)) kV ops.size ops.size true:=by
  refine ⟨b6,Nat.le_refl _,Nat.le_refl _,Vr,alp,z2,z3,?_,?_,?_,?_,?_,?_,fun h=>absurd h (Nat.lt_irrefl _),fun h=>absurd h (Nat.lt_irrefl _)⟩
  . intro i o a6 _;exact z4 _ o (nD (Vr i (Array.getElem?_eq_some_iff.1 a6).1).2 a6)
  . intro i o cz;obtain ⟨cR,f1,f2,f3,_⟩:=j5 i o cz;refine ⟨cR,f1,f2,fun _ k ok bK _=>?_⟩;obtain ⟨mk,f4,f5⟩:=f3 k ok bK;have ao:i<ops.size:=(Array.getElem?_eq_some_iff.1 cz).1;have aH:k<ops.size:=(Array.getElem?_eq_some_iff.1 bK).1;refine ⟨mk,f4,?_,fun he ml aO=>?_⟩
    . by_cases g_:k ∈ ins
      . unfold pv;rw [(La k ok g_ bK).1];simp
      . have ae:Nat.blt (posOf kV k) (posOf kV i)=Nat.blt (posOf aF k) (posOf aF i):=by
         rw [Bool.eq_iff_iff,Nat.blt_eq,Nat.blt_eq];rcases cls k aH with aD | aD | aD
         . obtain ⟨bZ,a2⟩:=CO k aH aD;rcases cls i ao with bb | bb | bb
           . obtain ⟨cb,ca⟩:=CO i ao bb;omega
           . obtain ⟨q,_,ca,e5,ik,iW⟩:=CN i ao bb;omega
           . obtain ⟨cb,ca⟩:=L_ i ao bb;omega
         . exact absurd aD g_
         . obtain ⟨bZ,a2⟩:=L_ k aH aD;rcases cls i ao with bb | bb | bb
           . obtain ⟨cb,ca⟩:=CO i ao bb;omega
           . obtain ⟨q,_,ca,e5,ik,iW⟩:=CN i ao bb;omega
           . obtain ⟨cb,ca⟩:=L_ i ao bb;omega
        rw [ae];exact f5
    . have g_:=QS k ok bK ml;obtain ⟨aqC,_,ca,e5,ik,iW⟩:=CN k aH g_;rcases cls i ao with bb | bb | bb
      . obtain ⟨bZ,a2⟩:=CO i ao bb;omega
      . exact .inr ⟨rfl,(La i o bb cz).2,(La k ok g_ bK).2⟩
      . rw [(CU i o bb cz).1] at he;cases he
  . have:=F8 (P:=P) (aF:=kV) (l:=ops.toList) (i:=0);simpa using this
  . intro j o g1 g2;have:=zs (P:=P) (aF:=kV) (i:=0) (j:=j) (l:=ops.toList) (o:=o) (by simpa using g1) g2;simpa using this
  . intro st cO;rcases uA cO with h | ⟨j,o,g1,g2,g3⟩
    . exact .inl (.inl (by simpa using h))
    . exact .inr ⟨j,o,by simpa using g1,g2,by simpa using g3⟩
  . intro j o q' aA he _;have aU:j<ops.size:=(Array.getElem?_eq_some_iff.1 q').1;have oi:j ∈ pre:=by
     rcases cls j aU with bb | bb | bb
     . exact bb
     . obtain ⟨cj,jA,g1,g2,_⟩:=B_ j bb;rw [q'] at g1;cases g1;rw [(FZ (P:=P) g2).2.1] at he;cases he
     . rw [(CU j o bb q').2] at aA;cases aA
    obtain ⟨uZ,XI,hD⟩:=(Mf j o oi q').2.2 aA he;obtain ⟨q,aC⟩:=List.mem_iff_getElem?.1 oi;obtain ⟨bZ,_,a3⟩:=Il q j aC;obtain ⟨e,c,off,ab,e1,fZ,y3,y4,ND⟩:=Ui ey q j o uZ XI aC q' hD;have aeG:(hX++(vQ++yr))[posOf kV j]? =some e:=by rw [(CO j aU oi).1,bZ,List.getElem?_append_left (by omega)];rw [Nat.zero_add,o9,List.getElem?_append_left (by omega)] at e1;exact e1
    refine ⟨e,aeG,fun st cO _=>⟨call,_,⟨cY,dI⟩,ack hD y4 ND fZ _ (ZQ st ?_ c fun h=>y3 h.symm)⟩⟩;rcases uA cO with h | ⟨bg,cj,g1,g2,g3⟩
    . exact .inl (by simpa using h)
    . have FA:ops[bg]? =some cj:=by simpa using g1
      exact .inr ⟨bg,(Array.getElem?_eq_some_iff.1 FA).1,QS bg cj FA g2,by simpa using g3⟩
 have lL:∀(ax:Env) (bw:Act),E.le ax->bw.defers=a.defers->∀(bD:bI),T.get .bad e6 bD=T.get .bad e6 r->lz ax (T.get .bad e6 bD) bw.defers:=fun ax bw he bb bD sE=>by rw [sE,bb];exact k.defers.mono he
 have Fg:T.get .bad e6 eZ=T.get .bad e6 r:=by have:=C.Jg ops.size (Nat.le_refl _);have KD:(hX++(vQ++yr))[ops.size]? =none:=List.getElem?_eq_none (by omega);unfold et at this;rw [KD] at this;exact this
 have kq:Holds ay ay (hX++(vQ++yr)) Ar kV (ki ops (hX++(vQ++yr)) Ar kV (Array.replicate ops.size false) 0):=
  ⟨rfl,fun _ _=>rfl,fun k aH=>(by obtain ⟨_,_,_,_,aW⟩:=aH;omega),fun k bg aH=>(by obtain ⟨_,_,_,_,aW⟩:=aH;omega)⟩
 obtain ⟨hO,fD,g1,g2,g3,g4,g5,g6⟩:=C.advance ops.size 0 (by omega) (fun k o _ _ _=>dE k) ay kq (E:=E) (w:={w with drawn:=w.drawn}) (by rw [C.aW];exact s.same rfl rfl rfl rfl);rw [<-oe];refine ajS (ay:=ay) bJ (fun _=>cY) (fun _=>dI) C (fl:=E) (D:=a.defers) (tA:=tA) (fun ax bw an ar aw aK bY=>?_) (fun i k ao aH aO bw bL yG=>?_) ops.size t _ [] a _ (by rw [oe];rfl) (fun k _=>⟨fun h=>absurd h (dE k),fun h=>by simp at h⟩) (Nat.le_trans List.countP_le_length (by simp)) ?_
 . refine af ax bw an ar ⟨aw,lL ax bw ar aK eZ Fg⟩ ?_;have kt:=dH aw A.m;rw [sz] at kt;simp only [Rel] at kt;obtain ⟨p,ad3,_⟩:=kt;rw [adj,<-adn];refine bY.forget adl ad3 ?_;rw [List.nil_append,Us (FX yW),Ur (fun i m h=>Rs h) ado];exact KL.symm.map _
 . have oh:i<ops.size:=by
    unfold mz at ao;cases a6:ops[i]? with
    | none=>rw [a6] at ao;cases ao
    | some o=>exact (Array.getElem?_eq_some_iff.1 a6).1
   have Kk:k<ops.size:=by
    unfold mz at aH;cases a6:ops[k]? with
    | none=>rw [a6] at aH;cases aH
    | some o=>exact (Array.getElem?_eq_some_iff.1 a6).1
   have g_:=(K_ k Kk).1 aH;have Tn:σ=bw.filter (mz ops)++i::bL.filter (mz ops):=by rw [<-K5,yG,List.filter_append,List.filter_cons_of_pos ao]
   have j':posOf kV i=cD + (bw.filter (mz ops)).length:=by rw [yZ i oh,(Eb i (bw.filter (mz ops)).length).2.1 (by rw [Tn,List.getElem?_append_right (Nat.le_refl _),Nat.sub_self];rfl),y0]
   obtain ⟨q,aC,FC,_⟩:=CN k Kk g_;have re:q < (bw.filter (mz ops)).length:=by omega
   rw [Tn,List.getElem?_append_left re] at aC;exact (List.mem_filter.1 (List.mem_of_getElem? aC)).1
 . refine ⟨by simp,k.size,rfl,fun bg aH=>absurd aH (dE bg),fun bg o e aH=>absurd aH (dE bg),E,hO,fD,Env.le.refl E,g1,g3,fun bg o aa ad=>⟨fun h=>absurd h (dE bg),fun h=>by have:=g4 bg o aa ad (Nat.zero_le _);omega⟩,
    fun bg o _ _ h=>absurd h (dE bg),g5,?_,fun t av=>.inr ⟨fun bg o aH=>absurd aH (dE bg),k.aq t av⟩⟩
   exact g6.same rfl rfl rfl rfl
theorem acp {rd:Option Nat} {ay:Fr} {E:Env} {h:ah} {w:World} {id:Nat} (dz:P.follows .mixedOrders=true) (bJ:eO P) (cY:hi P call) (dI:ht P call) {r:bI} {a:Act}
 {Q:Exit->Act->World->Prop} (af:nY ay E au (Q .normal) Q ((Jc P au ops).run call r h)) (k:fF E au r a) (s:bd ay E h w):(Code.region id ops true).wpIn (cw rd) 0 P Q a w:=by
 unfold Jc at af;generalize CM P ops=order at af;generalize GM order 0 ops.toList=aF at af;unfold Rj at af;cases az:(l9 ops.size order aF&&yj P ops aF) with
 | false=>
   rw [az] at af;simp only [cond_false] at af;cases jO:(l9 ops.size order aF&&C7 P ops order aF) with
   | false=>
     rw [jO] at af;simp only [cond_false] at af;cases J_:l9 ops.size order aF with
     | false=>rw [J_] at af;exact af.elim
     | true=>
       rw [J_] at af;simp only [cond_true] at af;exact ajU dz bJ cY dI J_ af k s
   | true=>
     rw [jO] at af;simp only [cond_true] at af;simp only [Bool.and_eq_true] at jO;exact acq dz bJ cY dI jO.1 jO.2 af k s
 | true=>
   rw [az] at af;simp only [cond_true] at af;simp only [Bool.and_eq_true] at az;obtain ⟨hq,gC⟩:=az;unfold l9 at hq;simp only [Bool.and_eq_true,Nat.beq_eq] at hq;obtain ⟨ks,ns,sA,sB⟩:=hq;have iz:∀k,k<ops.size->posOf aF k<ops.size/\order[posOf aF k]? =some k:=by
    intro k aH;have aB:aF[k]? =some (posOf aF k):=by unfold posOf;rw [List.getElem?_eq_getElem (by omega)];rfl
    have:=uK sA aB;rw [Nat.zero_add] at this;exact ⟨by have:=(List.getElem?_eq_some_iff.1 this).1;omega,this⟩
   have lq:∀p,p<ops.size->∃i,i<ops.size/\posOf aF i=p:=by intro p af;have aB:order[p]? =some (order[p]'(by omega)):=List.getElem?_eq_getElem (by omega);have:=uK sB aB;rw [Nat.zero_add] at this;refine ⟨order[p]'(by omega),by have:=(List.getElem?_eq_some_iff.1 this).1;omega,?_⟩;unfold posOf;rw [this];rfl
   have M0:∀j o,ops[j]? =some o->ei P o=true->posOf aF j ∈ h0 P aF 0 ops.toList:=fun j o aa ad=>by simpa using zs (aF:=aF) (i:=0) (j:=j) (l:=ops.toList) (by simpa using aa) ad
   have anl:ops.size ∈ h0 P aF 0 ops.toList:=by simpa using F8 (P:=P) (aF:=aF) (l:=ops.toList) (i:=0)
   have WS:∀N M,∀s ∈ h0 P aF 0 ops.toList,(s=ops.size\/(s=N/\M=N))\/∃k o,ops[k]? =some o/\ei P o=true/\s=posOf aF k:=fun N M s aS=>by
    rcases uA aS with h | ⟨j,o,aa,ad,aJ⟩
    . exact .inl (.inl (by simpa using h))
    . exact .inr ⟨j,o,by simpa using aa,ad,by simpa using aJ⟩
   have Sy:∀i o,ops[i]? =some o->∃cR,(eT [] ops.toList)[i]? =some cR/\mI i o=true/\(posOf aF i<ops.size->
    ∀k ok,ops[k]? =some ok->posOf aF k<ops.size->∃mk,(eT [] ops.toList)[k]? =some mk/\pv i cR (b7 ops o) o.dst k mk ok (Nat.blt (posOf aF k) (posOf aF i))=true/\(e' P o.op=true->ei P ok=true->posOf aF k<posOf aF i->gi cR k=true\/(false=true/\lj o=true/\lj ok=true))):=by
    intro i o ao;obtain ⟨cR,g1,g2,g3⟩:=Ri gC i o ao;exact ⟨cR,g1,g2,fun _ k ok aH _=>by obtain ⟨mk,e1,fZ,y3⟩:=g3 k ok aH;exact ⟨mk,e1,fZ,fun a b c=>.inl (y3 a b c)⟩⟩
   have main:∀(q:Ds),
    (∀es o' N,es.length=N->N<=ops.size->(∀i o,ops[i]? =some o->posOf aF i<N->∃e,es[posOf aF i]? =some e/\(cG P au ops o).run call e.r e.h=.val e.v (cn es o' (posOf aF i+1)))->
      (N<ops.size->∃i0 iw,ops[i0]? =some iw/\posOf aF i0=N/\ei P iw=true)->q.run call es o'=true->∀j o,ops[j]? =some o->looks o.op=true->e' P o.op=false->posOf aF j<N->∃e,es[posOf aF j]? =some e/\∀s ∈ h0 P aF 0 ops.toList,
      sY P (eT [] ops.toList) ops.toList aF j (((eT [] ops.toList)[j]?).getD 0) s=true->∃ab,(cG P au ops o).run call e.r (cn es o' s)=.val e.v ab)->
    nY ay E au (Q .normal) Q (Ez ops order aF (fO P au ops (hN ops order)) q call r h)->(Code.region id ops true).wpIn (cw rd) 0 P Q a w:=by
    intro q ua cZ;unfold Ez at cZ;cases cO:(fO P au ops (hN ops order)).run call r h with
    | fail=>rw [cO] at cZ;exact cZ.elim
    | ok es eZ bl=>
      rw [cO] at cZ;simp only at cZ;cases aC:q.run call es bl with
      | false=>rw [aC] at cZ;exact cZ.elim
      | true=>
        rw [aC] at cZ;simp only [cond_true] at cZ;obtain ⟨ar,aw,aK,bY⟩:=uX cO;have hlen:es.length=ops.size:=by rw [ar,qo,ks]
        have h':∀i o,ops[i]? =some o->posOf aF i<ops.size->∃e,es[posOf aF i]? =some e/\(cG P au ops o).run call e.r e.h=.val e.v (cn es bl (posOf aF i+1))/\et es eZ (posOf aF i+1)=(fX o.dst).run e.r e.v:=
         fun i o a6 _=>bY _ o (nD (iz i (Array.getElem?_eq_some_iff.1 a6).1).2 a6)
        have C:Cert P au ops (fun _=>call) es r h eZ bl (h0 P aF 0 ops.toList) order aF ops.size ops.size false:=
         ⟨hlen,Nat.le_refl _,Nat.le_refl _,iz,lq,aw,aK,h',Sy,anl,M0,WS _ _,
           fun j o aa ad aJ bG=>by obtain ⟨e,g1,g2⟩:=ua es bl _ hlen (Nat.le_refl _) (fun i o a6 ao=>by obtain ⟨e,b6,z2,_⟩:=h' i o a6 ao;exact ⟨e,b6,z2⟩) (fun h=>by omega) aC j o aa ad aJ bG;exact ⟨e,g1,fun s aS hm=>by obtain ⟨ab,g3⟩:=g2 s aS hm;exact ⟨_,ab,⟨cY,dI⟩,g3⟩⟩,
           fun h=>absurd h (Nat.lt_irrefl _),fun h=>absurd h (Nat.lt_irrefl _)⟩
        exact Je dz bJ cY dI k s C (fun _=>cZ) (fun _ _ _ _ _ _ _ h=>absurd h (Nat.lt_irrefl _)) (fun h=>absurd h (Nat.lt_irrefl _))
    | cP es eZ bl v ab=>
      rw [cO] at cZ;simp only at cZ;cases aC:(Ma ops order aF es.length&&q.run call es bl) with
      | false=>rw [aC] at cZ;exact cZ.elim
      | true=>
        rw [aC] at cZ;simp only [cond_true] at cZ;simp only [Bool.and_eq_true] at aC;obtain ⟨wD,aC⟩:=aC;obtain ⟨aw,aK,bY,iw,ek,fk,h3⟩:=WU cO;have aO:es.length<ops.size:=by have:=(List.getElem?_eq_some_iff.1 ek).1;rw [qo,ks] at this;exact this
        obtain ⟨i0,wq,j'⟩:=lq es.length aO;have cz:ops[i0]? =some ops[i0]:=Array.getElem?_eq_getElem wq;have p7:=(iz i0 wq).2;rw [j'] at p7;have afp:iw=ops[i0]:=by have:=nD p7 cz;rw [ek] at this;cases this;rfl
        subst afp;unfold Ma at wD;rw [p7] at wD;simp only at wD;obtain ⟨m0,SJ,_⟩:=qE wD i0 ops[i0] (by simp);have Tm:∀k ok,ops[k]? =some ok->∃mk,(eT [] ops.toList)[k]? =some mk/\(es.length<posOf aF k->gi mk i0=true)/\(hb ok=true->posOf aF k<es.length->gi m0 k=true):=by
         intro k ok aH;obtain ⟨mk,b6,z2⟩:=qE wD k ok (by simpa using aH);simp only [Nat.zero_add,Bool.and_eq_true] at z2;refine ⟨mk,b6,fun aB=>?_,fun a1 aA=>?_⟩
         . have:=z2.1;rw [show Nat.blt es.length (posOf aF k)=true from by rw [Nat.blt_eq];exact aB] at this;exact this
         . have:=z2.2;rw [a1,show Nat.blt (posOf aF k) es.length=true from by rw [Nat.blt_eq];exact aA,SJ] at this;exact this
        have yI:ei P ops[i0]=true:=by obtain ⟨bP,bX⟩:=Uu (P:=P) fk;unfold ei;rw [bP,bX];rfl
        have h':∀i o,ops[i]? =some o->posOf aF i<es.length->∃e,es[posOf aF i]? =some e/\(cG P au ops o).run call e.r e.h=.val e.v (cn es bl (posOf aF i+1))/\et es eZ (posOf aF i+1)=(fX o.dst).run e.r e.v:=
         fun i o a6 aA=>bY _ o aA (nD (iz i (Array.getElem?_eq_some_iff.1 a6).1).2 a6)
        have C:Cert P au ops (fun _=>call) es r h eZ bl (h0 P aF 0 ops.toList) order aF es.length ops.size false:=
         ⟨rfl,Nat.le_of_lt aO,Nat.le_of_lt aO,iz,lq,aw,aK,h',Sy,by rw [<-j'];exact M0 i0 _ cz yI,M0,WS _ _,
           fun j o aa ad aJ bG=>by obtain ⟨e,g1,g2⟩:=ua es bl _ rfl (Nat.le_of_lt aO) (fun i o a6 ao=>by obtain ⟨e,b6,z2,_⟩:=h' i o a6 ao;exact ⟨e,b6,z2⟩) (fun _=>⟨i0,_,cz,j',yI⟩) aC j o aa ad aJ bG;exact ⟨e,g1,fun s aS hm=>by obtain ⟨ab,g3⟩:=g2 s aS hm;exact ⟨_,ab,⟨cY,dI⟩,g3⟩⟩,
           fun h=>absurd h (Nat.lt_irrefl _),fun _ _=>⟨i0,_,m0,cz,j',fk,SJ,fun k ok mk aH aB nq=>by
            obtain ⟨mk',b6,z2,_⟩:=Tm k ok aH;rw [nq] at b6;cases b6;exact z2 aB,fun k ok aH a1 aA=>by
            obtain ⟨mk',b6,_,z3⟩:=Tm k ok aH;exact z3 a1 aA,v,ab,h3⟩⟩
        refine Je dz bJ cY dI k s C (fun h=>absurd h (by omega)) (fun ax bw an x v1 aa g1 _ _ g3 g4 g5 g6=>?_) (fun h=>absurd h (Nat.lt_irrefl _));obtain ⟨i1,db,b6,z2,z3⟩:=g3;have:i1=i0:=C.xe (Array.getElem?_eq_some_iff.1 b6).1 wq (by rw [z2,j']);subst this;rw [cz] at b6;cases b6;rw [h3] at z3;cases z3;exact cZ ax bw an x g1 g4 g5 g6
   cases aA:r6 P ops.toList with
   | false=>
     rw [aA] at af;have none:∀(l:List Oper),r6 P l=false->∀(j:Nat) (o:Oper),l[j]? =some o->e' P o.op=false:=by
      intro l
      induction l with
      | nil=>intro _ j o h;simp at h
      | cons x l bq=>
        intro h j o a6;simp only [r6,Bool.or_eq_false_iff] at h;cases j with
        | zero=>simp only [List.getElem?_cons_zero,Option.some.injEq] at a6;subst a6;exact h.1
        | succ j=>exact bq h.2 j o (by simpa using a6)
     refine main _ (fun es o' N hlen hle h' S_ _ j o a6 ey aC BA=>?_) af;have JP:N=ops.size:=by
      rcases Nat.lt_or_ge N ops.size with aO | jl
      . obtain ⟨i0,iw,b6,z2,z3⟩:=S_ aO;have:=none _ aA i0 iw (by simpa using b6);unfold ei at z3;rw [this] at z3;cases z3
      . omega
     obtain ⟨e,bW,bV⟩:=h' j o a6 BA;refine ⟨e,bW,fun s aS _=>?_⟩;have iJ:s=ops.size:=by
      rcases uA aS with h | ⟨Ce,cj,aa,ad,aJ⟩
      . simpa using h
      . have:=none _ aA Ce cj aa;unfold ei at ad;rw [this] at ad;cases ad
     have flat:∀d,d<=ops.size->cn es o' d=cn es o' 0:=by
      intro d
      induction d with
      | zero=>intro _;rfl
      | succ d bq=>
        intro bb;obtain ⟨i,By,oh⟩:=lq d (by omega);have cz:ops[i]? =some ops[i]:=Array.getElem?_eq_getElem By;obtain ⟨acy,b3,b2⟩:=h' i ops[i] cz (by omega);rw [oh] at b3 b2;have ck:e' P ops[i].op=false:=none _ aA i _ (by simp);rw [(vJ ck b2).1,<-bq (by omega)];simp [cn,b3]
     have:e.h=cn es o' s:=by rw [iJ,flat ops.size (Nat.le_refl _),<-flat (posOf aF j) (by omega)];simp [cn,bW]
     rw [<-this];exact ⟨_,bV⟩
   | true=>
     rw [aA] at af;refine main _ (fun es o' N hlen hle h' S_ KN j o a6 ey aC BA=>?_) af;obtain ⟨e,bW,_⟩:=h' j o a6 BA;have:=Ii KN j o (by simpa using a6) ey aC e (by simpa using bW);exact ⟨e,bW,by simpa using this⟩
end
def toExit:dm->Exit
 | .normal=>.normal
 | .exit id=>.exit id
 | .ret=>.ret
def YM (C:Ctx):Prop:=
 ∀f p args h v ab,C.Ml f=some p->p.run args h=.val v ab->(∃fn,C.P.funcs[f]? =some fn/\fn.body.isSome=true)/\∀(ay:Fr) E w xs,bk E args xs->bd ay E h w->
  Calls C.P f xs.toArray w fun e an=>∃ax x,e=.returned x/\E.le ax/\Rel ax v x/\bd ay ax ab an
def X5 (C:Ctx):Prop:=
 ∀f p args h v ab,C.ext f=some p->p.run args h=.val v ab->∀(ay:Fr) E w xs,bk E args xs->bd ay E h w->
  ∃ax x an,(callFunc f xs.toArray).run C.P w=.ok (.value x) an/\E.le ax/\Rel ax v x/\bd ay ax ab an
def r2 (C:Ctx):Prop:=YM C/\X5 C
theorem qY {P:Program} {rd:Option Nat} (m:Machine):m.fenced P (cw rd):=fenced_wide P m
def Hh (rd:Option Nat) (P:Program) (c:Code) (Q:Exit->Act->World->Prop) (a:Act) (w:World):Prop:=
 match c with
 | .loop x=>∀(b:Frame) (k:List Item) (cs:List Frame),b.roundOf=rd->∃e bw an,Q e bw an/\ArrivesIn (Machine.fenced P (cw rd)) P (lone (b.atR a (.code x::.inLoop x::k)) cs w) b k cs e bw an
 | c=>c.wpIn (cw rd) 0 P Q a w
theorem Hh.wp {rd:Option Nat} {P:Program} {c:Code} {Q:Exit->Act->World->Prop} {a:Act} {w:World} (h:Hh rd P c Q a w):c.wpIn (cw rd) 0 P Q a w:=by
 cases c with
 | loop x=>
   intro b k cs lS _ _;obtain ⟨e,bw,an,q,r⟩:=h b k cs lS;exact ⟨e,bw,an,q,.of_steps (.one (qY _) stepR_loop) r⟩
 | _=>exact h
def x0 (ay:Fr) (E:Env) (au:Nat) (Q:Exit->Act->World->Prop):mf->Prop
 | .ok e r h=>∀ax bw an,E.le ax->fF ax au r bw->bd ay ax h an->Q (toExit e) bw an
 | .cP v r h=>∀ax bw an x,E.le ax->fF ax au r bw->Rel ax v x->bd ay ax h an->Q (.panic (qq x)) bw an
 | .fail=>False
theorem x0.up {ay:Fr} {E ax:Env} (h:E.le ax) {au:Nat} {Q:Exit->Act->World->Prop} {x:mf} (k:x0 ay E au Q x):x0 ay ax au Q x:=by
 cases x with
 | ok e r bl=>exact fun cm a w ad=>k cm a w (h.trans ad)
 | cP v r bl=>exact fun cm a w x ad=>k cm a w x (h.trans ad)
 | fail=>exact k
def NS (P:Program) (au:Nat) (c:Code) (run:bI->ah->mf):Prop:=
 ∀(rd:Option Nat) (ay:Fr) r h,(rd=none\/noMark c=true)->∀E a w,fF E au r a->bd ay E h w->∀Q:Exit->Act->World->Prop,x0 ay E au Q (run r h)->Hh rd P c Q a w
def tq (P:Program) (ex:ie):Prop:=∀au c,NS P au c (ex au c)
def xk (tmps:Array Value):ResultVar->Sem Value
 | .tmp t=>pure (tmps.getD t undef)
 | .cell b t=>do loadVar t (<-asAddr (tmps.getD b undef))
theorem MD {P:Program} {ay:Fr} {E:Env} {au:Nat} {r:bI} {h:ah} {a:Act} {w:World} (k:RegRel0 E au r a) (s:bd ay E h w):∀{l:List ResultVar} {ai:List V},(kY P au l).run r h=some ai->
 ∃xs,bk E ai xs/\(l.mapM (xk a.tmps)).run P w=.ok xs w
 | [],ai,he=>by simp only [kY,Option.some.injEq] at he;subst he;exact ⟨[],rfl,rfl⟩
 | .tmp t::l,ai,he=>by
   simp only [kY] at he;cases aD:(Nat.ble t top&&Nat.blt t au) with
   | false=>rw [aD] at he;cases he
   | true=>
     rw [aD] at he;simp only [cond_true] at he;simp only [Bool.and_eq_true,Nat.ble_eq] at aD;cases aE:(kY P au l).run r h with
     | none=>rw [aE] at he;cases he
     | some us=>
       rw [aE] at he;simp only [Option.some.injEq] at he;subst he;obtain ⟨xs,aa,ad⟩:=MD k s aE;refine ⟨_::xs,by simp only [bk];exact ⟨_,_,rfl,k.aq t aD.1,aa⟩,?_⟩;rw [List.mapM_cons,Sem.run_bind];simp only [xk,Sem.run_pure,Result.andThen_ok,Sem.run_bind,ad]
 | .cell b t::l,ai,he=>by
   simp only [kY] at he;cases aD:(Nat.ble b top&&Nat.blt b au) with
   | false=>rw [aD] at he;cases he
   | true=>
     rw [aD] at he;simp only [cond_true] at he;simp only [Bool.and_eq_true,Nat.ble_eq] at aD;cases bj:(ql P t).run h (T.get .bad (aj b) r) with
     | none=>rw [bj] at he;cases he
     | some v=>
       rw [bj] at he;simp only at he;cases aE:(kY P au l).run r h with
       | none=>rw [aE] at he;cases he
       | some us=>
         rw [aE] at he;simp only [Option.some.injEq] at he;subst he;obtain ⟨xs,aa,ad⟩:=MD k s aE;obtain ⟨Y,_,cL,A,ng,fH⟩:=Uh (P:=P) s (k.aq b aD.1) bj;refine ⟨Y::xs,by simp only [bk];exact ⟨_,_,rfl,cL,aa⟩,?_⟩;rw [List.mapM_cons,Sem.run_bind];simp only [xk,ng,asAddr,Sem.run_bind,Sem.run_pure,Result.andThen_ok,fH,ad]
theorem O0:∀(args:List V) (i:Nat) (t:bI) (j:Nat),i+args.length<=top+1->j<=top->
 T.get .bad (aj j) (m' i args t)=if i<=j/\j<i+args.length then (args[j-i]?).getD .bad else T.get .bad (aj j) t
 | [],i,t,j,_,_=>by
   have:¬(i<=j/\j<i):=by omega
   simp [m',this]
 | v::ai,i,t,j,h,aU=>by
   simp only [List.length_cons] at h ⊢;rw [m',O0 ai _ _ _ (by omega) aU];by_cases aa:i+1<=j/\j<i+1+ai.length
   . rw [if_pos aa,if_pos (by omega)];have:j-i=(j - (i+1))+1:=by omega
     rw [this,List.getElem?_cons_succ]
   . rw [if_neg aa,T.iq];by_cases ad:j=i
     . subst ad;rw [if_pos rfl,if_pos (by omega)];simp
     . rw [if_neg (fun e=>ad (fj e).symm),if_neg (by omega)]
theorem ak2 {E:Env} {ai:List V} {xs:List Value} (h:bk E ai xs) (fn:Func) (a:Act) (P:Program) (w:World)
 (aE:(fn.results.toList.mapM (xk a.tmps)).run P w=.ok xs w):∃x,(results fn a.tmps).run P w=.ok x w/\Rel E (oneOf ai) x:=by
 have np:(fn.results.mapM (xk a.tmps)).run P w=.ok xs.toArray w:=by rw [Array.mapM_eq_mapM_toList,Sem.run_map,aE];rfl
 have J3:results fn a.tmps=(do
  let ai <-fn.results.mapM (xk a.tmps)
  pure (if h:ai.size=1 then ai[0] else .tuple ai)):=by
  unfold results;have:(fun x=>match x with
   | ResultVar.tmp t=>(pure (a.tmps.getD t undef):Sem Value)
   | ResultVar.cell b t=>do loadVar t (<-asAddr (a.tmps.getD b undef)))=xk a.tmps:=by
   funext x;cases x<;>rfl
  rw [<-this];rfl
 have ui:(results fn a.tmps).run P w=.ok (if h:xs.toArray.size=1 then xs.toArray[0] else .tuple xs.toArray) w:=by rw [J3,Sem.run_bind,np];rfl
 refine ⟨_,ui,?_⟩
 match ai,h with
 | [],h=>
   simp only [bk] at h;subst h;simp only [oneOf,Rel];exact ⟨#[],rfl,rfl⟩
 | [v],h=>
   simp only [bk] at h;obtain ⟨y,cV,rfl,aZ,rfl⟩:=h;simpa [oneOf] using aZ
 | v::u::ai,h=>
   have aA:=h.length;have ck:¬xs.toArray.size=1:=by simp at aA ⊢;omega
   rw [dif_neg ck];simp only [oneOf,Rel];exact ⟨_,rfl,by simpa using h⟩
section
variable {C:Ctx}
theorem OZ:∀(args:List V) (i:Nat) (t:bI),i+args.length<=top+1->T.get .bad e6 (m' i args t)=T.get .bad e6 t
 | [],_,_,_=>rfl
 | v::ai,i,t,h=>by simp only [List.length_cons] at h;simp only [m'];rw [OZ ai (i+1) _ (by omega),T.iq,if_neg (xc (by omega))]
theorem Rt {E:Env} {au:Nat} {args:List V} {xs:List Value} (aA:bk E args xs) (lJ:args.length<=au) (hC:au<=top):
 fF E au (m' 0 args .e) {tmps:=xs.toArray++Array.replicate (au-xs.toArray.size) undef,defers:=[]}:=by
 have hlen:=aA.length;refine ⟨⟨by simp;omega,fun t av=>?_⟩,?_⟩
 . rw [O0 _ _ _ _ (by omega) av];by_cases aO:t<args.length
   . rw [if_pos (by omega),Nat.sub_zero,List.getElem?_eq_getElem aO];obtain ⟨y,aZ,cL⟩:=aA.get t args[t] (List.getElem?_eq_getElem aO);simp only [Option.getD_some];have:(xs.toArray++Array.replicate (au-xs.toArray.size) undef).getD t undef=y:=by
      rw [Array.getD_eq_getD_getElem?,Array.getElem?_append_left (by simp;omega)];simp [aZ]
     rw [this];exact cL
   . rw [if_neg (by omega)];simp [Rel]
 . rw [OZ _ _ _ (by omega)];simp [lz]
def k5 (E:Env) (u:Option V) (m:FrameMode):Prop:=
 match u with
 | none=>m=.returning
 | some v=>∃x,Rel E v x/\m=.panicking (qq x)
theorem k5.mono {E ax:Env} (h:E.le ax) {u:Option V} {m:FrameMode} (k:k5 E u m):k5 ax u m:=by
 cases u with
 | none=>exact k
 | some v=>obtain ⟨x,aa,ad⟩:=k;exact ⟨x,Rel.mono h _ _ aa,ad⟩
theorem k5.settle {E:Env} {u:Option V} {m:FrameMode} (k:k5 E u m):settle m=m:=by
 cases u with
 | none=>simp only [k5] at k;subst k;rfl
 | some v=>obtain ⟨x,aa,rfl⟩:=k;rfl
theorem k5.run {E:Env} {u:Option V} {m:FrameMode} (k:k5 E u m):m≠.run:=by
 cases u with
 | none=>simp only [k5] at k;subst k;simp
 | some v=>obtain ⟨x,aa,rfl⟩:=k;simp
def Dw (P:Program) (kG:vb):Prop:=
 ∀f args u h gR ab,kG f args u h=.go gR ab->(∃fn,P.funcs[f]? =some fn/\fn.body.isSome=true)/\
  ∀(ay:Fr) E w xs m,bk E args xs->k5 E u m->bd ay E h w->CallsDIn (cw none) 0 P f xs.toArray m w fun e dt an=>∃ax x,e=.returned x/\E.le ax/\k5 ax gR (settle dt)/\bd ay ax ab an
theorem bd.gone {ay:Fr} {E:Env} {h:ah} {w an:World} (s:bd ay E h w) {b:aQ} {p:jH} (hY:(h.get b).own=true) (af:E b=some p) (da:ay.w.heap.size<=p.aN)
 (aO:w.heap.size<=an.heap.size) (nt:∀j,j≠p.aN->an.heap[j]? =w.heap[j]?) (rb:an.os=w.os) (av:an.tape=w.tape) (a6:an.output=w.output):bd ay E (h.set b .dead) an:=
 s.set hY af da aO nt rb av a6 (fun _ _ _ e=>by cases e) trivial
theorem Lt {P:Program} {kG:vb} (bJ:eO P) (lL:Dw P kG) {ay:Fr} {fn:Func} {tmps:Array Value} {R:Ending->World->Prop}:∀(ai:List V) (ds:List Deferred) (E:Env) (u:Option V) (h:ah) (w:World) (m:FrameMode) (gR:Option V) (ab:ah),
 nx kG ai u h=.go gR ab->nP E ai ds->k5 E u m->bd ay E h w->(∀ax dt an,E.le ax->k5 ax gR dt->bd ay ax ab an->LeavesInM (cw none) 0 P fn tmps R [] dt an)->LeavesInM (cw none) 0 P fn tmps R ds m w
 | [],ds,E,u,h,w,m,gR,ab,he,bb,hu,s,cL=>by simp only [nx,tw.go.injEq] at he;obtain ⟨rfl,rfl⟩:=he;simp only [nP] at bb;subst bb;exact cL E m w (Env.le.refl E) hu s
 | v::ai,ds,E,u,h,w,m,gR,ab,he,bb,hu,s,cL=>by
   obtain ⟨d,lG,rfl,Fe,Ff⟩:=bb;cases v with
   | func f args=>
     simp only [nx] at he;cases aD:kG f args u h with
     | fail=>rw [aD] at he;cases he
     | go u1 aa=>
       rw [aD] at he;simp only at he;obtain ⟨az,cap,av,aA⟩:=Fe;obtain ⟨⟨Jw,jQ,ae⟩,cY⟩:=lL _ _ _ _ _ _ aD;refine ⟨hu.run,.inr ⟨fun h=>by simp at h,_,cap,f,d.args++cap,av,?_,fun _ _=>trivial,?_⟩⟩
       . rw [av];simp only [invoke];exact uT bJ jQ ae _ w
       . have e:d.args++cap=(d.args.toList++cap.toList).toArray:=by apply Array.ext';simp
         rw [e];refine CallsDIn.mono (cY ay E w _ m aA hu s) fun e m1 b3 aC=>?_;obtain ⟨eu,x,rfl,ar,aw,aK⟩:=aC;exact Lt bJ lL ai lG eu u1 aa b3 (settle m1) gR ab he (Ff.mono ar) aw aK fun cm m2 b2 bW bV b8=>cL cm m2 b2 (ar.trans bW) bV b8
   | ptr b off=>
     simp only [nx] at he;cases aB:h.get b<;>rw [aB] at he<;>simp only at he<;>try (cases he;done)
     obtain ⟨p,af,aey⟩:=Fe;have ae:=s.at af;rw [aB] at ae;obtain ⟨p',gF,da,bl⟩:=ae;rw [af] at gF;cases gF;have lP:=(Array.getElem?_eq_some_iff.1 bl).1
     let b3:World:={w with heap:=w.heap.setIfInBounds p.aN (.deferred none)}
     have afW:(Instr.takeDeferred p.aN).run P w=.ok [] b3:=by
      have fe:(getObj p.aN).run P w=.ok (.deferred (some [])) w:=by simp only [getObj,Sem.run,bl]
      have sH:(setObj p.aN (.deferred none)).run P w=.ok () b3:=by simp only [setObj,Sem.run,bl];rfl
      simp only [Instr.takeDeferred,Sem.run_bind,fe,Result.andThen_ok,sH,Sem.run_pure]
     have s1:bd ay E (h.set b .dead) b3:=s.gone (by rw [aB];rfl) af da (by simp [b3]) (fun j aU=>by simp only [b3,Array.getElem?_setIfInBounds];rw [if_neg (fun e=>aU e.symm)]) rfl rfl rfl;refine ⟨hu.run,.inl ⟨p.aN,b3,by rw [aey],afW,?_⟩⟩;exact Lt bJ lL ai lG E u _ b3 m gR ab he Ff hu s1 cL
   | _=>simp [nx] at he
theorem MI {P:Program} {ay:Fr} {E:Env} {fn:Func} {r:bI} {h:ah} {a:Act} {w:World} (k:RegRel0 E fn.ntmps r a) (s:bd ay E h w) {ai:List V} (bj:(kY P fn.ntmps fn.results.toList).run r h=some ai):
 ∃x,(results fn a.tmps).run P w=.ok x w/\Rel E (oneOf ai) x:=by
 obtain ⟨cV,bW,bV⟩:=MD (P:=P) k s bj;exact ak2 bW fn a P w bV
section
variable {C:Ctx}
theorem abk (ex:ie):ht C.P (sd C ex):=by intro f args h v ab he;trivial
def r1 (ay:Fr) (E:Env) (R:Ending->World->Prop):a7->Prop
 | .val v ab=>∀ax x an,E.le ax->Rel ax v x->bd ay ax ab an->R (.returned x) an
 | .cP v ab=>∀ax x an,E.le ax->Rel ax v x->bd ay ax ab an->R (.panicked (qq x)) an
 | .fail=>False
theorem r1.up {ay:Fr} {E ax:Env} (h:E.le ax) {R:Ending->World->Prop} {x:a7} (k:r1 ay E R x):r1 ay ax R x:=by
 cases x with
 | val v bl=>exact fun cm a w ad=>k cm a w (h.trans ad)
 | cP v bl=>exact fun cm a w ad=>k cm a w (h.trans ad)
 | fail=>exact k
theorem Ju (bJ:eO C.P) {kG:vb} (lL:Dw C.P kG) {ay:Fr} {fn:Func} {E:Env} {r:bI} {u:Option V} {h:ah} {a:Act} {w:World} {m:FrameMode} {R:Ending->World->Prop}
 (k:fF E fn.ntmps r a) (hu:k5 E u m) (s:bd ay E h w)
 (af:r1 ay E R (finish (kY C.P fn.ntmps fn.results.toList) r (nx kG (T.get .bad e6 r).list u h))):LeavesInM (cw none) 0 C.P fn a.tmps R a.defers m w:=by
 cases aA:nx kG (T.get .bad e6 r).list u h with
 | fail=>rw [aA] at af;exact af.elim
 | go gR ab=>
   rw [aA] at af;refine Lt bJ lL _ a.defers E u h w m gR ab aA k.defers.list hu s fun ax dt an ar aw aK=>?_;cases gR with
   | some v=>
     obtain ⟨x,ak,rfl⟩:=aw;exact af ax x an ar ak aK
   | none=>
     simp only [k5] at aw;subst aw;simp only [finish] at af;cases bj:(kY C.P fn.ntmps fn.results.toList).run r ab with
     | none=>rw [bj] at af;exact af.elim
     | some ai=>
       rw [bj] at af;obtain ⟨x,bW,bV⟩:=MI (P:=C.P) (k.mono ar).toRegRel0 aK bj;exact ⟨x,bW,af ax x an ar bV aK⟩
theorem Q8 {res:x2} {u gR:Option V} {x:mf} {ab:ah} (he:Ey res u x=.go gR ab):∃e r ai,x=.ok e r ab/\(e=.normal\/e=.ret)/\T.get .bad e6 r=.bad/\res.run r ab=some ai/\gR=u:=by
 unfold Ey at he;cases x with
 | fail=>cases he
 | cP _ _ _=>cases he
 | ok e r h=>
   have main:(bif (T.get .bad e6 r).Ld then (match res.run r h with
    | some _=>tw.go u h
    | none=>.fail) else .fail)=.go gR ab->(e=.normal\/e=.ret)->∃cX bD ai,mf.ok e r h=.ok cX bD ab/\(cX=.normal\/cX=.ret)/\T.get .bad e6 bD=.bad/\res.run bD ab=some ai/\gR=u:=by
    intro he h9;cases ae:(T.get .bad e6 r).Ld with
    | false=>rw [ae] at he;cases he
    | true=>
      rw [ae] at he;simp only [cond_true] at he;have Bq:T.get .bad e6 r=.bad:=by
       cases aB:T.get .bad e6 r<;>rw [aB] at ae<;>first
        | rfl
        | cases ae
      cases bj:res.run r h with
      | none=>rw [bj] at he;cases he
      | some ai=>
        rw [bj] at he;simp only [tw.go.injEq] at he;obtain ⟨rfl,rfl⟩:=he;exact ⟨e,r,ai,rfl,h9,Bq,bj,rfl⟩
   cases e with
   | normal=>exact main he (.inl rfl)
   | ret=>exact main he (.inr rfl)
   | exit id=>cases he
theorem amf {c:Code} {s:H4} (h:GR c=some s):∃id db dp args types,c=.seq (.region id #[db,dp] false) s.rest/\db.dst=some s.d/\db.op=.call ⟨.builtin .recover,args,types⟩/\db.guard=none/\dp.dst=some s.e/\dp.op=.assign s.x/\dp.guard=none:=by
 unfold GR at h
 split at h
 case h_2=>cases h
 rename_i id ops rest
 split at h
 case h_2=>cases h
 rename_i db dp aA
 split at h
 case h_2=>cases h
 rename_i d args types e x aa ad aJ bG di dD;cases h;have aft:ops=#[db,dp]:=by apply Array.ext';simp [aA]
 subst aft;exact ⟨id,db,dp,_,_,rfl,aa,ad,aJ,bG,di,dD⟩
theorem acf (dz:C.P.follows .mixedOrders=true) (bJ:eO C.P) {ex:ie} (hex:tq C.P ex):Dw C.P (Ex C.P ex):=by
 intro f args u h gR ab he;unfold Ex at he;cases az:C.P.funcs[f]? with
 | none=>rw [az] at he;cases he
 | some fn=>
   rw [az] at he;simp only at he;cases ae:fn.body with
   | none=>rw [ae] at he;cases he
   | some c=>
     rw [ae] at he;simp only at he;refine ⟨⟨fn,rfl,by rw [ae];rfl⟩,fun ay E w xs m aA hu s=>?_⟩;cases hC:Nat.ble fn.ntmps top with
     | false=>rw [hC] at he;cases he
     | true=>
       rw [hC] at he;simp only [cond_true] at he;rw [Nat.ble_eq] at hC;unfold Q9 at he;cases lJ:Nat.ble args.length fn.ntmps with
       | false=>rw [lJ] at he;cases he
       | true=>
         rw [lJ] at he;simp only [cond_true] at he;rw [Nat.ble_eq] at lJ;have k:=Rt aA lJ hC;cases aE:GR c with
         | none=>
           rw [aE] at he;simp only at he;obtain ⟨e,r,ai,ak,h9,yJ,bj,rfl⟩:=Q8 he;refine CallsDIn.mono (callsDIn_of_wp (R:=fun e an=>∃ax x,e=.returned x/\E.le ax/\bd ay ax ab an) az ae trivial ?_) fun cX dt an aC=>?_
           . refine (hex fn.ntmps c none ay _ h (.inl rfl) E _ w k s _ ?_).wp;rw [ak];intro ax bw an ar aw aK;have bb:bw.defers=[]:=by have:=aw.defers;rw [yJ] at this;exact this
             obtain ⟨x,bW,bV⟩:=MI (P:=C.P) aw.toRegRel0 aK bj;rcases h9 with rfl | rfl<;>exact ⟨bb,x,bW,ax,x,rfl,ar,aK⟩
           . obtain ⟨rfl,ax,x,rfl,ar,aK⟩:=aC;exact ⟨ax,x,rfl,ar,by rw [hu.settle];exact hu.mono ar,aK⟩
         | some qA=>
           rw [aE] at he;simp only at he;cases gC:(e7 fn.ntmps (some qA.d)&&e7 fn.ntmps (some qA.e)) with
           | false=>rw [gC] at he;cases he
           | true=>
             rw [gC] at he;simp only [cond_true] at he;simp only [Bool.and_eq_true] at gC;obtain ⟨e,r,ai,ak,h9,yJ,bj,rfl⟩:=Q8 he;obtain ⟨id,db,dp,CZ,rt,rfl,g1,g2,g3,g4,g5,g6⟩:=amf aE;refine callsDIn_of_wpSIn az ae trivial fun vH cs J2=>wpSIn_seq (wpSIn_region ?_);obtain ⟨X,b4,yg,hA,dt,nn,afP⟩:∃X,Rel E (u.getD .nilIface) X/\∃yg,(match recoverD (vH::cs) with
              | some (v,ab3)=>v=X/\ab3=yg
              | none=>X=.nilIface/\yg=vH::cs)/\∃dt,yg={vH with mode:=dt}::cs/\settle dt=.returning:=by
              cases u with
              | none=>
                simp only [k5] at hu;subst hu;refine ⟨.nilIface,rfl,vH::cs,?_,.returning,?_,rfl⟩
                . simp only [recoverD,J2];exact ⟨trivial,trivial⟩
                . rw [<-J2]
              | some v=>
                obtain ⟨x,ak,rfl⟩:=hu;refine ⟨x,ak,{vH with mode:=.panicking [{v:=x,recovered:=true}]}::cs,?_,.panicking [{v:=x,recovered:=true}],rfl,rfl⟩;simp only [recoverD,J2];exact ⟨trivial,trivial⟩
             have bz:=k.put gC.1 b4;have bx:=bz.put gC.2 (dH bz.toRegRel0 qA.x);rw [<-g1] at bx;rw [<-g4] at bx;have FF:=(hex fn.ntmps qA.rest none ay _ h (.inl rfl) E _ w bx s (fun cX bw an=>bodyPostS C.P fn vH cs (fun e dt an=>∃ax x,e=.returned x/\E.le ax/\k5 ax none (settle dt)/\bd ay ax ab an) cX bw yg an) (by
              have:VY qA u (m' 0 args .e)=(fX dp.dst).run ((fX db.dst).run (m' 0 args .e) (u.getD .nilIface)) ((bT qA.x).run ((fX db.dst).run (m' 0 args .e) (u.getD .nilIface))):=by rw [g1,g4];rfl
              rw [<-this,ak];intro ax bw an ar aw aK;have bb:bw.defers=[]:=by have:=aw.defers;rw [yJ] at this;exact this
              obtain ⟨x,bW,bV⟩:=MI (P:=C.P) aw.toRegRel0 aK bj;rcases h9 with rfl | rfl<;>exact ⟨bb,dt,nn,x,bW,ax,x,rfl,ar,afP,aK⟩)).wp
             have Ti:=wpSIn_of_wpIn (F:=cw none) rfl FF;have sK:∀y,Region.wanted db y=true:=fun y=>by simp [Region.wanted,g3]
             have sL:∀y,Region.wanted dp y=true:=fun y=>by simp [Region.wanted,g6]
             have afM:∀(ρ:Operand->Value),(execOp ρ db).run C.P w=.ok .recover w:=fun ρ=>by obtain ⟨dst,op,type,pos,after,guard⟩:=db;simp only at g2;subst g2;rfl
             have BT:∀(ρ:Operand->Value),(execOp ρ dp).run C.P w=.ok (.value (ρ qA.x)) w:=fun ρ=>by obtain ⟨dst,op,type,pos,after,guard⟩:=dp;simp only at g5;subst g5;rfl
             have cq:(#[db,dp]:Array Oper).size=2:=rfl;rw [cq];simp only [List.range_succ,List.range_zero,List.nil_append,List.cons_append,wpOpsSIn];have c_:(#[db,dp]:Array Oper)[0]? =some db:=rfl;have aP:(#[db,dp]:Array Oper)[1]? =some dp:=rfl;rw [c_];simp only [sK,if_true,afM];refine ⟨fun _ _=>trivial,?_⟩;cases S3:recoverD (vH::cs) with
             | none=>
               rw [S3] at hA;obtain ⟨aeb,o7⟩:=hA;subst aeb o7;simp only [aP,sL,if_true,BT];exact ⟨fun _ _=>trivial,Ti⟩
             | some Ns=>
               obtain ⟨v,apo⟩:=Ns;rw [S3] at hA;obtain ⟨rfl,rfl⟩:=hA;simp only [aP,sL,if_true,BT];exact ⟨fun _ _=>trivial,Ti⟩
end
end
theorem WQ:∀(xs:List V) (x:V),G5 (xs++[x])=some (xs,x)
 | [],x=>rfl
 | [y],x=>rfl
 | y::z::xs,x=>by have:=WQ (z::xs) x;simp only [List.cons_append] at this ⊢;simp only [G5,this]
theorem RegRel0.putAt {E:Env} {au:Nat} {r:bI} {t:Array Value} {ds:List Deferred} (k:RegRel0 E au r ⟨t,ds⟩) {d:Nat} (bb:d<au) (av:d<=top) {v:V} {x:Value} (bj:Rel E v x):
 RegRel0 E au (T.put .bad v (aj d) r) ⟨t.setIfInBounds d x,ds⟩:=by
 refine ⟨by simp only [Array.size_setIfInBounds];exact k.size,fun j aU=>?_⟩;rw [T.iq];have cq:=k.size;simp only at cq;by_cases h:d=j
 . subst h;rw [if_pos rfl];simp [Array.getD_eq_getD_getElem?,cq,bb,bj]
 . rw [if_neg (fun e=>h (fj e))];have:=k.aq j aU;simpa [Array.getD_eq_getD_getElem?,Array.getElem?_setIfInBounds,h] using this
theorem VI {E:Env} {au:Nat} {ds:List Deferred}:∀(bm:List Nat) (ai:List V) (xs:List Value) (r:bI) (t:Array Value),pw au bm=true->bk E ai xs->RegRel0 E au r ⟨t,ds⟩->
 RegRel0 E au (s5 bm ai r) ⟨(bm.zip xs).foldl (fun t (p:Nat × Value)=>t.setIfInBounds p.1 p.2) t,ds⟩
 | [],ai,xs,r,t,_,_,k=>by cases ai<;>exact k
 | p::bm,[],xs,r,t,_,aA,k=>by simp only [bk] at aA;subst aA;exact k
 | p::bm,v::ai,xs,r,t,af,aA,k=>by obtain ⟨y,cV,rfl,aZ,aA⟩:=aA;simp only [pw,List.all_cons,Bool.and_eq_true,Nat.blt_eq,Nat.ble_eq] at af;simp only [s5,List.zip_cons_cons,List.foldl_cons];exact VI bm ai cV _ _ af.2 aA (k.putAt af.1.1 af.1.2 aZ)
theorem VJ {E:Env} {au:Nat} {ds:List Deferred} {bm:Array Nat} {ai:List V} {xs:List Value} {r:bI} {t:Array Value} (af:pw au bm.toList=true) (aA:bk E ai xs) (k:RegRel0 E au r ⟨t,ds⟩):
 RegRel0 E au (s5 bm.toList ai r) ⟨(bm.zip xs.toArray).foldl (fun t (p:Nat × Value)=>t.setIfInBounds p.1 p.2) t,ds⟩:=by
 rw [<-Array.foldl_toList,Array.toList_zip];exact VI bm.toList ai xs r t af aA k
theorem RegRel0.ZJ {E:Env} {au:Nat} {r:bI} {a:Act} (k:RegRel0 E au r a) (v:V):RegRel0 E au (T.put .bad v e6 r) a:=
 ⟨k.size,fun t av=>by rw [T.iq,if_neg (fun e=>xc av e.symm)];exact k.aq t av⟩
section
variable {C:Ctx}
theorem ada (bJ:eO C.P) (dz:C.P.follows .mixedOrders=true) {ex:ie} (hex:tq C.P ex) {f:FuncId} {args:List V} {h:ah} {ay:Fr} {E:Env} {w:World} {xs:List Value} (aA:bk E args xs) (s:bd ay E h w) {R:Ending->World->Prop}
 (af:r1 ay E R ((Jx C.P f).run ex args h)):(∃fn,C.P.funcs[f]? =some fn/\fn.body.isSome=true)/\Calls C.P f xs.toArray w R:=by
 unfold Jx at af;cases az:C.P.funcs[f]? with
 | none=>rw [az] at af;exact af.elim
 | some fn=>
   rw [az] at af;simp only at af;cases ae:fn.body with
   | none=>rw [ae] at af;exact af.elim
   | some c=>
     rw [ae] at af;simp only at af;refine ⟨⟨fn,rfl,by rw [ae];rfl⟩,?_⟩;cases hC:Nat.ble fn.ntmps top with
     | false=>rw [hC] at af;exact af.elim
     | true=>
       rw [hC] at af;simp only [cond_true] at af;rw [Nat.ble_eq] at hC;unfold RU at af;cases lJ:Nat.ble args.length fn.ntmps with
       | false=>rw [lJ] at af;exact af.elim
       | true=>
         rw [lJ] at af;simp only [cond_true] at af;rw [Nat.ble_eq] at lJ;have k:=Rt aA lJ hC;have lL:=acf (C:=C) dz bJ hex;refine tK.1 (callsIn_of_wp_marks (F:=cw none) (n:=0) az ae trivial ?_);refine (hex fn.ntmps c none ay _ h (.inl rfl) E _ w k s _ ?_).wp;cases aE:ex fn.ntmps c (m' 0 args .e) h with
         | fail=>rw [aE] at af;exact af
         | cP v r aa=>
           rw [aE] at af;intro ax bw an x ar aw aK bY;exact Ju (u:=some v) bJ lL aw ⟨x,aK,rfl⟩ bY (r1.up ar af)
         | ok e r aa=>
           rw [aE] at af;intro ax bw an ar aw aK;have main:r1 ay E R (finish (kY C.P fn.ntmps fn.results.toList) r (nx (Ex C.P ex) (T.get .bad e6 r).list none aa))->LeavesInM (cw none) 0 C.P fn bw.tmps R bw.defers .returning an:=by intro af;exact Ju (u:=none) bJ lL aw rfl aK (r1.up ar af)
           cases e with
           | normal=>exact main af
           | ret=>exact main af
           | exit id=>exact af.elim
theorem ER (bJ:eO C.P) (dz:C.P.follows .mixedOrders=true) (iF:r2 C) {ex:ie} (hex:tq C.P ex) {f:FuncId} {args:List V} {h:ah} {ay:Fr} {E:Env} {w:World} {xs:List Value} (aA:bk E args xs) (s:bd ay E h w) {R:Ending->World->Prop}
 (af:r1 ay E R ((yx C f).run ex args h)):(∃fn,C.P.funcs[f]? =some fn/\fn.body.isSome=true)/\Calls C.P f xs.toArray w R:=by
 unfold yx at af;cases aC:C.Ml f with
 | none=>rw [aC] at af;exact ada bJ dz hex aA s af
 | some p=>
   rw [aC] at af;simp only at af;cases aE:p.run args h with
   | fail=>rw [aE] at af;exact af.elim
   | cP _ _=>rw [aE] at af;exact af.elim
   | val v ab=>
     rw [aE] at af;obtain ⟨aa,ad⟩:=iF.1 f p args h v ab aC aE;refine ⟨aa,(ad ay E w xs aA s).mono fun e an aC=>?_⟩;obtain ⟨ax,x,rfl,ar,aw,aK⟩:=aC;exact af ax x an ar aw aK
theorem bd.loop {P:Program} {ay:Fr} {E:Env} {h:ah} {w:World} (s:bd ay E h w) {b:aQ} {l fh:lB} {p:jH} {o cj:Loop} (aB:h.get b=.dA l) (af:E b=some p) (da:ay.w.heap.size<=p.aN) (bl:w.heap[p.aN]? =some (.loop o)) (aE:vj E fh cj):
 (setObj p.aN (.loop cj)).run P w=.ok () {w with heap:=w.heap.setIfInBounds p.aN (.loop cj)}/\bd ay E (h.set b (.dA fh)) {w with heap:=w.heap.setIfInBounds p.aN (.loop cj)}:=by
 have lP:=(Array.getElem?_eq_some_iff.1 bl).1;refine ⟨by simp only [setObj,Sem.run,bl],s.set (p:=p) (by rw [aB];rfl) af da (by simp) (fun j aU=>?_) rfl rfl rfl (fun _ _ _ e=>by cases e) ?_⟩
 . simp only [Array.getElem?_setIfInBounds];rw [if_neg (fun e=>aU e.symm)]
 . exact ⟨p,cj,af,da,by simp [lP],aE⟩
theorem run_getLoop {P:Program} {r:Nat} {w:World} {o:Loop} (bl:w.heap[r]? =some (.loop o)):(Instr.getLoop r).run P w=.ok o w:=by
 have:(getObj r).run P w=.ok (.loop o) w:=by simp only [getObj,Sem.run,bl]
 simp only [Instr.getLoop,Sem.run_bind,this,Result.andThen_ok,Sem.run_pure]
theorem V_ {ay:Fr} {E:Env} {h ab:ah} {w:World} {b:aQ} {p:jH} {e:dm} {v:V} {P:Program} {R:Ending->World->Prop} {a:Act} (s:bd ay E h w) (af:E b=some p) (he:xm b e h=.val v ab)
 (cL:∀x an,Rel E v x->bd ay E ab an->R (.returned x) an):roundPost P p.aN R (toExit e) a w:=by
 unfold xm at he;have ae:=s.at af;cases aB:h.get b<;>rw [aB] at he ae<;>simp only at he<;>try (cases he;done)
 rename_i l;obtain ⟨p',o,gF,da,bl,aE⟩:=ae;rw [af] at gF;cases gF;have yO:=run_getLoop (P:=P) bl;obtain ⟨br,cF,cr,gm,c1,ct,eJ,dW⟩:=aE;cases e with
 | normal=>
   simp only [a7.val.injEq] at he;obtain ⟨rfl,rfl⟩:=he;obtain ⟨aa,ad⟩:=s.loop (P:=P) (fh:=⟨0,none,l.d,l.au,l.r,l.bm,l.assign,l.body⟩) (cj:={o with state:=.ready,pending:=none}) aB af da bl ⟨rfl,rfl,cr,gm,c1,ct,eJ,dW⟩;refine ⟨.bool true,_,?_,cL _ _ rfl ad⟩;simp only [Instr.endRound,Sem.run_bind,yO,Result.andThen_ok,Option.isNone_none,if_true,aa,Sem.run_pure]
 | ret=>
   simp only [a7.val.injEq] at he;obtain ⟨rfl,rfl⟩:=he;obtain ⟨aa,ad⟩:=s.loop (P:=P) (fh:=⟨2,some .ret,l.d,l.au,l.r,l.bm,l.assign,l.body⟩) (cj:={o with state:=.done,pending:=some .ret}) aB af da bl ⟨rfl,rfl,cr,gm,c1,ct,eJ,dW⟩;refine ⟨.bool false,_,?_,cL _ _ rfl ad⟩;simp only [Instr.endRound,Sem.run_bind,yO,Result.andThen_ok,Option.isNone_some,Bool.false_eq_true,if_false,aa,Sem.run_pure]
 | exit id=>
   simp only [a7.val.injEq] at he;obtain ⟨rfl,rfl⟩:=he;obtain ⟨aa,ad⟩:=s.loop (P:=P) (fh:=⟨2,some (.exit id),l.d,l.au,l.r,l.bm,l.assign,l.body⟩) (cj:={o with state:=.done,pending:=some (.exit id)}) aB af da bl ⟨rfl,rfl,cr,gm,c1,ct,eJ,dW⟩;refine ⟨.bool false,_,?_,cL _ _ rfl ad⟩;simp only [Instr.endRound,Sem.run_bind,yO,Result.andThen_ok,Option.isNone_some,Bool.false_eq_true,if_false,aa,Sem.run_pure]
theorem amu {P:Program} {ex:ie} (hex:tq P ex) {ay:Fr} {E:Env} {h ab:ah} {w:World} {args:List V} {xs:List Value} {b:aQ} {p:jH} {v:V} (he:C2 ex args b h=.val v ab) (aA:bk E args xs) (s:bd ay E h w) (af:E b=some p):
 ∃f tmps assign body,(Instr.yield p.aN xs.toArray).run P w=.ok (.round p.aN f tmps assign body) w/\
  RoundIn (cw none) 0 P p.aN f tmps assign body w fun e an=>∃ax x,e=.returned x/\E.le ax/\Rel ax v x/\bd ay ax ab an:=by
 unfold C2 at he;have ae:=s.at af;cases aB:h.get b<;>rw [aB] at he ae<;>simp only at he<;>try (cases he;done)
 rename_i l;obtain ⟨p',o,gF,da,bl,aE⟩:=ae;rw [af] at gF;cases gF;obtain ⟨br,cF,cr,gm,c1,ct,eJ,dW⟩:=aE;obtain ⟨aD,he⟩:=jJ he;simp only [Bool.and_eq_true,Nat.beq_eq] at aD;obtain ⟨bP,bX,c3,eF⟩:=aD;have hlen:=aA.length;have FD:o.params.size=xs.length:=by rw [<-Array.length_toList,cr,hlen,bP]
 refine ⟨o.fn,(o.params.zip xs.toArray).foldl (fun tmps (t,a)=>tmps.setIfInBounds t a) o.tmps,o.assign,o.body,?_,?_⟩
 . simp only [Instr.yield,Sem.run_bind,run_getLoop bl,Result.andThen_ok];rw [if_neg (by simp [FD])];rfl
 . rw [gm,c1];refine roundIn_of_wpIn (F:=cw none) trivial ?_;have iu:RegRel0 E l.au l.r ⟨o.tmps,[]⟩:=⟨ct,eJ⟩;rw [<-cr] at bX he;have bz:=(VJ bX aA iu).ZJ .bad;have k:fF E l.au (T.put .bad .bad e6 (s5 o.params.toList args l.r)) ⟨(o.params.zip xs.toArray).foldl (fun t (p:Nat × Value)=>t.setIfInBounds p.1 p.2) o.tmps,[]⟩:=⟨bz,by rw [T.iq,if_pos rfl];simp [lz]⟩;have agj:=hex l.au l.assign (some p.aN) ay _ h (.inr c3) E _ w k s (Exit.then (fun r' tk=>∃Di,(Instr.beginRound p.aN).run P tk=.ok () Di/\
    l.body.wpIn (cw (some p.aN)) 0 P (roundPost P p.aN fun e an=>∃ax x,e=.returned x/\E.le ax/\Rel ax v x/\bd ay ax ab an) r' Di) (fun _ _ _=>False))
   refine (agj ?_).wp;cases ak:ex l.au l.assign (T.put .bad .bad e6 (s5 o.params.toList args l.r)) h with
   | fail=>rw [ak] at he;cases he
   | cP _ _ _=>rw [ak] at he;cases he
   | ok e al6 aa=>
     rw [ak] at he;cases e<;>simp only at he<;>try (cases he;done)
     intro eu bZ b3 ar aw aK;unfold GX at he;have iY:=ar _ _ af;have ko:=aK.at iY;cases Sz:aa.get b<;>rw [Sz] at he ko<;>simp only at he<;>try (cases he;done)
     rename_i dZ;obtain ⟨bW,db,BL,q2,q7,sF⟩:=ko;rw [iY] at BL;cases BL;obtain ⟨cO,he⟩:=jJ he;rw [Nat.beq_eq] at cO;obtain ⟨t1,t2,t3,t4,t5,t6,t7,t8⟩:=sF;obtain ⟨g1,g2⟩:=aK.loop (P:=P) (fh:=⟨1,dZ.er,dZ.d,dZ.au,dZ.r,dZ.bm,dZ.assign,dZ.body⟩) (cj:={db with state:=.busy}) Sz iY q2 q7 ⟨rfl,t2,t3,t4,t5,t6,t7,t8⟩;refine ⟨{b3 with heap:=b3.heap.setIfInBounds p.aN (.loop {db with state:=.busy})},?_,?_⟩
     . have BS:db.state=.ready:=by rw [t1,cO];rfl
       simp only [Instr.beginRound,Sem.run_bind,run_getLoop q7,Result.andThen_ok,g1,BS,Sem.run_pure]
     . refine (hex l.au l.body (some p.aN) ay _ _ (.inr eF) eu _ _ aw g2 _ ?_).wp;cases ze:ex l.au l.body al6 (aa.set b (.dA ⟨1,dZ.er,dZ.d,dZ.au,dZ.r,dZ.bm,dZ.assign,dZ.body⟩)) with
       | fail=>rw [ze] at he;cases he
       | cP _ _ _=>rw [ze] at he;cases he
       | ok bf aqD ad=>
         rw [ze] at he;simp only at he;intro cm a2 b2 b6 z2 z3;exact V_ z3 (b6 _ _ iY) he fun x an e1 fZ=>⟨cm,x,rfl,ar.trans b6,e1,fZ⟩
theorem abm (dz:C.P.follows .mixedOrders=true) (bJ:eO C.P) (iF:r2 C) {ex:ie} (hex:tq C.P ex):hi C.P (sd C ex) where
 fn:=by
  intro ay f args h v ab az he E w xs aA s;unfold sd at he;rw [im,if_neg az] at he;cases ak:C.ext f with
  | some p=>
    rw [ak] at he;simp only at he;cases aE:p.run args h with
    | fail=>rw [aE] at he;cases he
    | cP _ _=>rw [aE] at he;cases he
    | val v1 aa=>
      rw [aE] at he;simp only [a7.LV,a7.val.injEq] at he;obtain ⟨rfl,rfl⟩:=he;exact .inr (iF.2 f p args h _ _ ak aE ay E w xs aA s)
  | none=>
  rw [ak] at he;simp only at he;exact .inl (ER bJ dz iF hex aA s (by rw [he];exact fun ax x an ar aw aK=>⟨ax,x,rfl,ar,aw,aK⟩))
 cP:=by
  intro ay f args h v ab az he E w xs aA s;unfold sd at he;rw [im,if_neg az] at he;cases ak:C.ext f with
  | some p=>
    rw [ak] at he;simp only at he;cases aE:p.run args h<;>rw [aE] at he<;>cases he
  | none=>
  rw [ak] at he;simp only at he;exact ER bJ dz iF hex aA s (by rw [he];exact fun ax x an ar aw aK=>⟨ax,x,rfl,ar,aw,aK⟩)
 XN:=by intro ay args b h v ab he E w xs p aA s af;unfold sd at he;rw [im,if_pos rfl] at he;unfold MM at he;rw [WQ] at he;exact amu hex he aA s af
 XO:=by
  intro args h v ab he;unfold sd at he;rw [im,if_pos rfl] at he;have aP:∀b e h,xm b e h≠.cP v ab:=by
   intro b e h he;unfold xm at he
   split at he
   . cases e<;>cases he
   . cases he
  have bf:∀au c b r h,GX ex au c b r h≠.cP v ab:=by
   intro au c b r h he;unfold GX at he
   split at he
   case h_2=>cases he
   rename_i l aA;cases aD:Nat.beq l.st 0 with
   | false=>rw [aD] at he;cases he
   | true=>
     rw [aD] at he;simp only [cond_true] at he
     split at he
     . exact aP _ _ _ he
     . cases he
  have c4:∀xs b h,C2 ex xs b h≠.cP v ab:=by
   intro xs b h he;unfold C2 at he
   split at he
   case h_2=>cases he
   rename_i l aA;cases aD:(Nat.beq xs.length l.bm.length&&(pw l.au l.bm&&(noMark l.assign&&noMark l.body))) with
   | false=>rw [aD] at he;cases he
   | true=>
     rw [aD] at he;simp only [cond_true] at he
     split at he
     case h_2=>cases he
     rename_i e r aa _;cases e<;>simp only at he<;>try (cases he;done)
     exact bf _ _ _ _ _ he
  unfold MM at he
  split at he
  case h_2=>cases he
  split at he
  case h_2=>cases he
  exact c4 _ _ _ he
end
section
variable {C:Ctx}
theorem acU {P:Program} {e:dm} {Q:Exit->Act->World->Prop} {a:Act} {w:World} (h:Q (toExit e) a w):(Jt e).wpIn (cw none) 0 P Q a w:=by
 cases e with
 | normal=>exact wpIn_skip h
 | exit id=>exact wpIn_exit h
 | ret=>exact wpIn_ret h
theorem amc (dz:C.P.follows .mixedOrders=true) (bJ:eO C.P) (iF:r2 C) {ex:ie} (hex:tq C.P ex) {f:Operand} {bm:Array Tmp} {assign body:Code} {au:Nat} {ay:Fr} {E:Env} {r:bI} {h:ah} {a:Act} {w:World} {Q:Exit->Act->World->Prop}
 (k:fF E au r a) (s:bd ay E h w) (af:x0 ay E au Q (My (fun g args h=>(yx C g).run ex args h) (bT f) bm.toList au assign body r h)):(Code.rangeFunc f bm assign body).wpIn (cw none) 0 C.P Q a w:=by
 unfold My at af;have az:=dH k.toRegRel0 f;generalize (bT f).run r=xD at af az;cases xD<;>simp only at af<;>try (exact af.elim)
 rename_i g cs;rw [im] at af;by_cases aB:g=dy
 . rw [if_pos aB] at af;exact af.elim
 . rw [if_neg aB] at af;simp only [Rel] at az;rcases az with ⟨_,eX,b4,aA⟩ | ⟨Kf,_⟩
   case inr=>exact absurd Kf aB
   refine wpIn_rangeFunc fun fn _=>?_;have f0:=s.fresh h.next (Nat.le_refl _)
   obtain ⟨eu,v8⟩:∃eu,eu=E.put (aj h.next) ⟨w.heap.size,0,0⟩:=⟨_,rfl⟩;obtain ⟨b3,sK⟩:∃b3:World,b3={w with heap:=w.heap.push (.deferred (some []))}:=⟨_,rfl⟩;have BP:eu (aj h.next)=some ⟨w.heap.size,0,0⟩:=by rw [v8];unfold Env.put;rw [if_pos rfl]
   have s1:bd ay eu (h.new .f_) b3:=by rw [v8,sK];refine s.alloc 0 ⟨⟨w.heap.size,0,0⟩,by unfold Env.put;rw [if_pos rfl],s.frame.size,by simp⟩
   have pn:E.le eu:=by rw [v8];exact Env.l1 f0
   have wH:b3.heap.size=w.heap.size+1:=by rw [sK];simp
   obtain ⟨o,a6⟩:∃o:Loop,o={state:=.ready,pending:=none,fn,tmps:=a.tmps,params:=bm,assign,body,defers:=w.heap.size}:=⟨_,rfl⟩;obtain ⟨cm,ss⟩:∃cm,cm=eu.put (aj (h.next+1)) ⟨b3.heap.size,0,0⟩:=⟨_,rfl⟩;obtain ⟨b2,sL⟩:∃b2:World,b2={b3 with heap:=b3.heap.push (.loop o)}:=⟨_,rfl⟩;have f1:eu (aj (h.next+1))=none:=s1.fresh (h.next+1) (Nat.le_refl _);have l0:eu.le cm:=by rw [ss];exact Env.l1 f1
   have BQ:cm (aj (h.next+1))=some ⟨b3.heap.size,0,0⟩:=by rw [ss];unfold Env.put;rw [if_pos rfl]
   have dA:vj cm ⟨0,none,aj h.next,au,r,bm.toList,assign,body⟩ o:=by subst a6;exact ⟨rfl,rfl,rfl,rfl,rfl,k.size,fun t av=>Rel.mono (pn.trans l0) _ _ (k.aq t av),_,l0 _ _ BP,rfl⟩
   have s2:bd ay cm ((h.new .f_).new (.dA ⟨0,none,aj h.next,au,r,bm.toList,assign,body⟩)) b2:=by rw [ss,sL];refine s1.alloc 0 ⟨⟨b3.heap.size,0,0⟩,o,by show eu.put (aj (h.next+1)) _ (aj (h.next+1))=_;unfold Env.put;rw [if_pos rfl],by show ay.w.heap.size<=b3.heap.size;rw [wH];have:=s.frame.size;omega,by simp,?_⟩;have:=dA;rw [ss] at this;exact this
   obtain ⟨ib,p5⟩:∃ib,ib=b3.heap.size:=⟨_,rfl⟩;have aZ:Rel cm (.func dy [.ptr (aj (h.next+1)) 0]) (.func (.yield ib) #[] #[]):=by simp only [Rel];exact .inr ⟨trivial,_,_,rfl,BQ,by rw [p5]⟩
   have pZ:bk cm (.func dy [.ptr (aj (h.next+1)) 0]::cs) (.func (.yield ib) #[] #[]::eX.toList):=by simp only [bk];exact ⟨_,_,rfl,aZ,bk.mono (pn.trans l0) _ _ aA⟩
   have cY:=ER (C:=C) bJ dz iF hex (f:=g) pZ s2 (R:=rangePost (cw none) 0 C.P ib Q {a with defers:=[{target:=.collected w.heap.size,args:=#[]}]++a.defers});cases aE:(yx C g).run ex (.func dy [.ptr (aj (h.next+1)) 0]::cs) ((h.new .f_).new (.dA ⟨0,none,aj h.next,au,r,bm.toList,assign,body⟩)) with
   | fail=>rw [aE] at af;exact af.elim
   | cP _ _=>rw [aE] at af;exact af.elim
   | val v ab=>
     rw [aE] at af cY;simp only at af;obtain ⟨⟨Jw,jQ,ae⟩,aD⟩:=cY (by
      intro ax x an ar aw aK;simp only [rangePost];unfold VS at af;have jo:=ar _ _ BQ;have ae:=aK.at jo;cases yO:ab.get (aj (h.next+1))<;>rw [yO] at af ae<;>simp only at af<;>try (exact af.elim)
      rename_i l;obtain ⟨p',cj,gF,da,bl,Kr⟩:=ae;rw [jo] at gF;cases gF;obtain ⟨t1,t2,t3,t4,t5,t6,t7,t8⟩:=Kr;rw [im] at af;by_cases cO:l.st=1
      . rw [if_pos cO] at af;exact af.elim
      . rw [if_neg cO] at af;simp only at bl;rw [<-p5] at bl;have Kz:(cj.state == LoopState.busy)=false:=by
         rw [t1]
         match p3:l.st with
         | 0=>rfl
         | 1=>exact absurd p3 cO
         | n+2=>rfl
        have lP:=(Array.getElem?_eq_some_iff.1 bl).1
        let jy:World:={an with heap:=an.heap.setIfInBounds ib (.loop {cj with state:=.exhausted})}
        have gB:(Instr.endLoop ib).run C.P an=.ok cj.pending jy:=by
         have sH:(setObj ib (.loop {cj with state:=.exhausted})).run C.P an=.ok () jy:=by simp only [setObj,Sem.run,bl];rfl
         simp only [Instr.endLoop,Sem.run_bind,run_getLoop bl,Result.andThen_ok,Kz,Bool.false_eq_true,if_false,sH,Sem.run_pure]
        have xo:bd ay ax (ab.set (aj (h.next+1)) .dead) jy:=by refine aK.gone (p:=⟨b3.heap.size,0,0⟩) (by rw [yO];rfl) jo da (by simp [jy]) (fun j aU=>?_) rfl rfl rfl;simp only at aU;simp only [jy,Array.getElem?_setIfInBounds];rw [if_neg (fun e=>aU (by rw [<-e,p5]))]
        have dr:fF ax au (T.put .bad (.tuple (.ptr (aj h.next) 0::(T.get .bad e6 r).list)) e6 r) {a with defers:=[{target:=.collected w.heap.size,args:=#[]}]++a.defers}:=by
         refine ⟨⟨k.size,fun t av=>?_⟩,?_⟩
         . rw [T.iq,if_neg (fun e=>xc av e.symm)];exact Rel.mono (pn.trans (l0.trans ar)) _ _ (k.aq t av)
         . rw [T.iq,if_pos rfl];simp only [lz,nP,List.cons_append,List.nil_append];exact ⟨_,_,rfl,⟨_,ar _ _ (l0 _ _ BP),rfl⟩,(k.defers.mono (pn.trans (l0.trans ar))).list⟩
        refine ⟨cj.pending,jy,gB,?_⟩;rw [t2];cases jT:l.er with
        | none=>
          rw [jT] at af;exact af ax _ jy (pn.trans (l0.trans ar)) dr xo
        | some e=>
          rw [jT] at af;exact acU (af ax _ jy (pn.trans (l0.trans ar)) dr xo))
     refine ⟨ib,[{target:=.collected w.heap.size,args:=#[]}],b2,{target:=.fn (.func g) eX,args:=#[]++#[.func (.yield ib) #[] #[]]},b2,g,_,b2,?_,?_,fun _ _=>trivial,?_,fun h=>by simp at h,tK.2 aD⟩
     . subst a6 sL sK;have he:=run_enterLoop_outer (P:=C.P) (w:=w) fn a.tmps bm assign body;rw [World.alloc,World.alloc] at he;simp only [Array.size_push] at p5 ⊢;rw [p5];exact he
     . simp only [resolve,b4,Deferred.ofValue,Sem.run_pure];simp [Act.eval]
     . simp only [invoke];have e:(#[]++#[Value.func (.yield ib) #[] #[]]:Array Value)++eX=(Value.func (.yield ib) #[] #[]::eX.toList).toArray:=by apply Array.ext';simp
       rw [e];exact uT bJ jQ ae _ b2
theorem z8 {P:Program} {b:Frame} {a:Act} {k:List Item} {cs:List Frame} {w:World} {c:Code}:
 step P (lone (b.atR a (.code (.scope c)::k)) cs w)=.next (lone (b.atR a (.code c::.inScope c::k)) cs w):=
 step_lone_go (by simp [stepG,stepG.exec,Frame.atR])
theorem anp {P:Program} {b:Frame} {a:Act} {k:List Item} {cs:List Frame} {w:World} {c:Code}:
 step P (lone (b.atR a (.inScope c::k)) cs w)=.next (lone (b.atR a k) cs w):=
 step_lone_go (by simp [stepG,stepG.exec,Frame.atR])
theorem Wl {P:Program} {rd:Option Nat} {c:Code} {Q:Exit->Act->World->Prop} {a:Act} {w:World} (h:c.wpIn (cw rd) 0 P (Exit.noGoto Q) a w):(Code.scope c).wpIn (cw rd) 0 P Q a w:=by
 intro b k cs lS ae aE;obtain ⟨e,r',tk,aC,j7⟩:=h b (.inScope c::k) cs lS ae aE;have ak:∀id,exitTo id (.inScope c::k)=exitTo id k:=fun id=>by simp [exitTo]
 cases e with
 | normal=>exact ⟨.normal,r',tk,aC,.head (qY _) z8 (StepsIn.trans j7 (.one (qY _) anp))⟩
 | exit id=>exact ⟨.exit id,r',tk,aC,fun bg aH=>.head (qY _) z8 (j7.1 bg (by rw [ak];exact aH)),fun sE aH=>let ⟨k₁,aa,ad⟩:=j7.2 sE (by rw [ak];exact aH);⟨k₁,aa,.head (qY _) z8 ad⟩⟩
 | goto l=>exact aC.elim
 | ret=>exact ⟨_,r',tk,aC,.of_steps (.one (qY _) z8) j7⟩
 | panic apm=>exact ⟨_,r',tk,aC,.of_steps (.one (qY _) z8) j7⟩
 | outgrown=>exact ⟨_,r',tk,aC,.of_steps (.one (qY _) z8) j7⟩
theorem abO (dz:C.P.follows .mixedOrders=true) (bJ:eO C.P) (iF:r2 C) {ex:ie} (hex:tq C.P ex) (au:Nat):∀c:Code,NS C.P au c ((jI C au c).run ex):=by
 have cY:=abm dz bJ iF hex;have dI:=abk (C:=C) ex;intro c
 induction c with
 | skip=>
   intro rd ay r h aE E a w k s Q af;exact wpIn_skip (af E a w (Env.le.refl E) k s)
 | label l=>
   intro rd ay r h aE E a w k s Q af;exact wpIn_label (af E a w (Env.le.refl E) k s)
 | exit id=>
   intro rd ay r h aE E a w k s Q af;exact wpIn_exit (af E a w (Env.le.refl E) k s)
 | ret=>
   intro rd ay r h aE E a w k s Q af;exact wpIn_ret (af E a w (Env.le.refl E) k s)
 | region id ops draw=>
   intro rd ay r h aE E a w k s Q af;have lift:∀x:oU,x0 ay E au Q (match x with | .ok bD ab=>.ok .normal bD ab | .cP v bD ab=>.cP v bD ab | .fail=>.fail)->nY ay E au (Q .normal) Q x:=by intro x ak;cases x<;>exact ak
   cases draw with
   | true=>
     simp only [jI,cond_true,GS] at af;exact acp dz bJ cY dI (lift _ af) k s
   | false=>
     simp only [jI,cond_false,GS] at af;refine wpIn_region ?_;have:=Va (rd:=rd) (Q:=Q) bJ cY dI ops.toList 0 (fun j=>by simp) (aE.imp (fun h=>h) fun h=>by simpa only [noMark,List.all_eq_true] using h) E r h a w (lift _ af) k s;rw [List.range_eq_range'];simpa using this
 | seq x y wN wO=>
   intro rd ay r h aE E a w k s Q af;simp only [jI,Wm] at af;have y2:rd=none\/noMark x=true:=aE.imp (fun h=>h) fun h=>by simp only [noMark,Bool.and_eq_true] at h;exact h.1
   have KU:rd=none\/noMark y=true:=aE.imp (fun h=>h) fun h=>by simp only [noMark,Bool.and_eq_true] at h;exact h.2
   refine wpIn_seq (wN rd ay r h y2 E a w k s _ ?_).wp;cases ak:(jI C au x).run ex r h with
   | fail=>rw [ak] at af;exact af
   | cP v br aa=>rw [ak] at af;exact af
   | ok aP br aa=>
     rw [ak] at af;simp only at af;intro ax bw an ar aw aK;cases aP with
     | normal=>exact (wO rd ay br aa KU ax bw an aw aK Q (af.up ar)).wp
     | exit id=>exact af ax bw an ar aw aK
     | ret=>exact af ax bw an ar aw aK
 | cond c x y wN wO=>
   intro rd ay r h aE E a w k s Q af;simp only [jI,QV] at af;have y2:rd=none\/noMark x=true:=aE.imp (fun h=>h) fun h=>by simp only [noMark,Bool.and_eq_true] at h;exact h.1
   have KU:rd=none\/noMark y=true:=aE.imp (fun h=>h) fun h=>by simp only [noMark,Bool.and_eq_true] at h;exact h.2
   have aD:=dH k.toRegRel0 c;cases bj:(bT c).run r<;>rw [bj] at af aD<;>simp only at af<;>try (exact af.elim)
   rename_i t;simp only [Rel] at aD;cases t with
   | true=>exact wpIn_cond_true aD (wN rd ay r h y2 E a w k s Q af).wp
   | false=>exact wpIn_cond_false aD (wO rd ay r h KU E a w k s Q af).wp
 | block id x bq=>
   intro rd ay r h aE E a w k s Q af;simp only [jI,Pm] at af;refine wpIn_block (bq rd ay r h (aE.imp (fun h=>h) fun h=>h) E a w k s _ ?_).wp;cases ak:(jI C au x).run ex r h with
   | fail=>rw [ak] at af;exact af
   | cP v br aa=>rw [ak] at af;exact af
   | ok aP br aa=>
     rw [ak] at af;simp only at af;intro ax bw an ar aw aK;cases aP with
     | normal=>exact af ax bw an ar aw aK
     | ret=>exact af ax bw an ar aw aK
     | exit i=>
       simp only [im] at af;simp only [toExit,Exit.inBlock];by_cases ao:i=id
       . rw [if_pos ao] at af ⊢;exact af ax bw an ar aw aK
       . rw [if_neg ao] at af ⊢;exact af ax bw an ar aw aK
 | loop x bq=>
   intro rd ay r h aE E a w k s Q af;simp only [jI,Uj] at af;have y2:rd=none\/noMark x=true:=aE.imp (fun h=>h) fun h=>h;intro b dj cs lS;cases ak:(jI C au x).run ex r h with
   | fail=>rw [ak] at af;exact af.elim
   | cP v br aa=>
     rw [ak] at af;have body:=(bq rd ay r h y2 E a w k s (fun cX bw an=>∃y,cX=.panic y/\Q cX bw an) (by rw [ak];exact fun ax bw an x ar aw aK bY=>⟨_,rfl,af ax bw an x ar aw aK bY⟩)).wp b (.inLoop x::dj) cs lS trivial (ML _);obtain ⟨bf,a2,b2,⟨y,rfl,q⟩,j7⟩:=body;exact ⟨_,a2,b2,q,.pass (x:=.inLoop x) rfl (fun _ _=>.inl (by simp)) j7⟩
   | ok aP br aa=>
     rw [ak] at af;simp only at af;have body:=(bq rd ay r h y2 E a w k s
      (fun cX bw an=>cX=toExit aP/\∃ax,E.le ax/\fF ax au br bw/\bd ay ax aa an) (by rw [ak];exact fun ax bw an ar aw aK=>⟨rfl,ax,ar,aw,aK⟩)).wp b (.inLoop x::dj) cs lS trivial (ML _)
     obtain ⟨bf,a2,b2,⟨rfl,cm,ar,aw,aK⟩,j7⟩:=body;cases aP with
     | normal=>
       have next:=hex au (.loop x) rd ay br aa aE cm a2 b2 aw aK Q (af.up ar)
       obtain ⟨c4,a3,iS,bW,bV⟩:=next b dj cs lS
       exact ⟨c4,a3,iS,bW,.of_steps (StepsIn.trans j7 (.one (qY _) stepR_inLoop)) bV⟩
     | exit id=>exact ⟨.exit id,a2,b2,af cm a2 b2 ar aw aK,.pass (x:=.inLoop x) rfl (fun _ _=>.inl (by simp)) j7⟩
     | ret=>exact ⟨.ret,a2,b2,af cm a2 b2 ar aw aK,.pass (x:=.inLoop x) rfl (fun _ _=>.inl (by simp)) j7⟩
 | scope x bq=>
   intro rd ay r h aE E a w k s Q af;simp only [jI] at af;refine Wl (bq rd ay r h (aE.imp (fun h=>h) fun h=>h) E a w k s _ ?_).wp;cases ak:(jI C au x).run ex r h with
   | fail=>rw [ak] at af;exact af
   | cP v br aa=>rw [ak] at af;exact af
   | ok aP br aa=>
     rw [ak] at af;intro ax bw an ar aw aK;have:=af ax bw an ar aw aK;cases aP<;>exact this
 | rangeFunc f bm x y _ _=>
   intro rd ay r h aE E a w k s Q af;rcases aE with rfl | aE
   case inr=>cases aE
   simp only [jI] at af;exact amc dz bJ iF hex k s af
 | goto l=>intro rd ay r h aE E a w k s Q af;exact af.elim
 | refuse aoq=>intro rd ay r h aE E a w k s Q af;exact af.elim
end
section
variable {C:Ctx}
theorem RD (dz:C.P.follows .mixedOrders=true) (bJ:eO C.P) (iF:r2 C):∀n,tq C.P (exec C n)
 | 0=>fun au c rd ay r h aE E a w k s Q af=>af.elim
 | n+1=>fun au c=>abO dz bJ iF (RD dz bJ iF n) au c
theorem abl (dz:C.P.follows .mixedOrders=true) (bJ:eO C.P) (iF:r2 C) {n:Nat} {f:FuncId} {args:List V} {h ab:ah} {v:V} (az:Nat.beq f dy=false) (ak:C.ext f=none) (he:Eo C n f args h=.val v ab)
 {ay:Fr} {E:Env} {w:World} {xs:List Value} (aA:bk E args xs) (s:bd ay E h w):
 (∃fn,C.P.funcs[f]? =some fn/\fn.body.isSome=true)/\Calls C.P f xs.toArray w fun e an=>∃ax x,e=.returned x/\E.le ax/\Rel ax v x/\bd ay ax ab an:=by
 unfold Eo sd at he;rw [az,cond_false,ak] at he;simp only at he;exact ER bJ dz iF (RD dz bJ iF n) aA s (by rw [he];exact fun ax x an ar aw aK=>⟨ax,x,rfl,ar,aw,aK⟩)
theorem Wx (w:World) (hw:Lay.ok w):bd ⟨w,fun _=>none⟩ (fun _=>none) ah.empty w:=by
 refine ⟨fun b _=>?_,fun _ _ h=>(by cases h),(fun b bL p p' _ _ h=>by cases h),fun _ _=>rfl,Below.refl _ _,hw,(fun _ _ _ _ _ _ h=>by cases h)⟩;have:ah.empty.get b=.dead:=by simp [ah.get,ah.empty]
 rw [this];trivial
theorem an0 (dz:C.P.follows .mixedOrders=true) (bJ:eO C.P) {w:World} (hw:Lay.ok w) (iF:r2 C) {n:Nat} {f:FuncId} (az:Nat.beq f dy=false) (ak:C.ext f=none) (h:Nn C n f []=true):
 Calls C.P f #[] w fun e an=>e=.returned (.bool true)/\Below w.heap.size w an:=by
 unfold Nn at h;cases aD:Eo C n f [] ah.empty with
 | fail=>rw [aD] at h;cases h
 | cP _ _=>rw [aD] at h;cases h
 | val v bl=>
   rw [aD] at h;simp only at h;cases v<;>simp only at h<;>try (cases h;done)
   subst h;obtain ⟨_,kL⟩:=abl dz bJ iF az ak aD (ay:=⟨w,fun _=>none⟩) (E:=fun _=>none) (w:=w) (xs:=[]) rfl (Wx w hw);refine kL.mono fun e an aC=>?_;obtain ⟨ax,x,rfl,_,aw,aK⟩:=aC;simp only [Rel] at aw;subst aw;exact ⟨rfl,aK.frame⟩
end
inductive aX where
 | t (n:Nat)
 | c (v:V)
abbrev bc:=Nat->V
def aX.aT (r:bc):aX->V
 | .t n=>r n
 | .c v=>v
def aX.ga (r:bc):List aX->List V
 | []=>[]
 | x::xs=>x.aT r::aX.ga r xs
def rx:Operand->aX
 | .tmp t=>bif Nat.ble t top then .t t else .c .bad
 | .const v=>.c (hM v)
 | .func f=>bif Nat.beq f dy then .c .bad else .c (.func f [])
 | .global _=>.c .bad
def nI:List Operand->List aX
 | []=>[]
 | x::xs=>rx x::nI xs
def aX.opt (r:bc):Option aX->Option V
 | none=>none
 | some x=>some (x.aT r)
def s':Option Operand->Option aX
 | none=>none
 | some x=>some (rx x)
inductive eC where
 | int (op:BinOp)
 | str (op:BinOp)
 | shl
 | shr
 | yq (neg:Bool)
 | jL (neg:Bool) (k:Nat)
 | other (op:BinOp) (t:TypeId)
def eC.run (P:Program):eC->V->V->Option V
 | .int op=>(lX op).run
 | .str op=>(tc op).run
 | .shl=>(xp true).run
 | .shr=>(xp false).run
 | .yq neg=>(jK neg qT).run
 | .jL neg k=>(jK neg (hy k)).run
 | .other op t=>(r_ P op t).run
inductive tn where
 | int (k:IntKind)
 | bytes
 | str
 | other (s d:TypeId)
def tn.run (P:Program):tn->V->ah->a7
 | .int k=>fun x h=>x.ep .fail fun _ n=>.val (.int k (k.wrap n)) h
 | .bytes=>A7.run
 | .str=>tN.run
 | .other s d=>(qR P s d).run
inductive mV where
 | int | str | bool
def mV.eq:mV->dP
 | .int=>oa
 | .str=>vO
 | .bool=>qT
inductive DP where
 | arr (n:Nat)
 | str
 | slice
 | map
inductive G where
 | bad
 | b0 (x:aX)
 | pick (c a b:aX)
 | new (z:List V)
 | box (x:aX)
 | build (z:List V) (bm:List (Nat × Nat × aX))
 | il (len size:Nat) (z:List V) (bm:List (Nat × Nat × aX))
 | d' (x:aX)
 | iM (size:Nat) (x:aX)
 | st (size:Nat) (x y:aX)
 | h2 (x:aX)
 | bin (k:eC) (x y:aX)
 | un (op:UnOp) (x:aX)
 | km (k:tn) (x:aX)
 | fn (f:FuncId) (eX:List aX)
 | Cx (f:FuncId) (first:List aX)
 | Ea (t:TypeId) (z:Option V) (ok:Bool) (x:aX)
 | sO (t:TypeId) (x:aX)
 | sZ (size:Nat) (z:List V) (l c:aX)
 | rL (x:aX) (bC ao ed:Option aX)
 | fY (size:Nat) (x:aX) (bC ao ed:Option aX)
 | eH (off:Nat) (x:aX)
 | vT (off:Nat) (x:aX)
 | vU (off size:Nat) (x:aX)
 | cH (size:Nat) (x i:aX)
 | lU (n size:Nat) (x i:aX)
 | mA (x i:aX)
 | kb (t:TypeId) (x i:aX)
 | look (k:mV) (z:V) (ok:Bool) (x i:aX)
 | eU (k:mV) (m i x:aX)
 | nC (x:Option aX)
 | zV (x:aX)
 | zD (x:aX)
 | ext (x:aX) (i:Nat)
 | call (f:FuncId) (args:List aX)
 | o1 (f:aX) (args:List aX)
 | len (k:DP) (x:aX)
 | app (size:Nat) (s x:aX)
 | copy (size:Nat) (d s:aX)
 | uC (args:List aX)
 | ed (args:List aX)
 | QU (z:List V) (x:aX)
 | tL (x:aX)
 | x' (size:Nat) (z:List V) (s x:aX)
 | rr (z:V) (ok:Bool) (x i:aX)
 | looks (k:TypeId) (z:V) (ok:Bool) (x i:aX)
 | xB (m i x:aX)
 | Da (k:TypeId) (m i x:aX)
 | w5 (z:V) (m i:aX)
 | Cw (k:TypeId) (z:V) (m i:aX)
 | vS (m s x:aX)
 | C1 (x:aX)
 | CG (x:aX)
 | Bd (x:aX)
 | peq (neg:Bool) (x y:aX)
def kI (r:bc):List (Nat × Nat × aX)->List (Nat × Nat × V)
 | []=>[]
 | (o,s,x)::bm=>(o,s,x.aT r)::kI r bm
def jk:List V->List (Nat × Nat × V)->Option (List V)
 | cells,[]=>some cells
 | cells,(off,size,v)::rest=>bif v.gd&&(Nat.beq v.cells.length size&&Nat.ble (off+v.cells.length) cells.length) then jk (sk cells off v.cells) rest else none
def DP.run:DP->V->ah->a7
 | .arr n=>fun _ h=>.val (.int .i64 n) h
 | .str=>fun x h=>a7.of h ((po .string).run x)
 | .slice=>fun x h=>a7.of h ((po (.slice 0)).run x)
 | .map=>fun x h=>Cp [x] h
def uN (neg:Bool) (h:ah) (x y:V):Option V:=
 match hs h x y with
 | some b=>some (.bool (bif neg then !b else b))
 | none=>none
def G.run (P:Program) (g:G) (call:dQ) (r:bc) (h:ah):a7:=
 match g with
 | .bad=>.fail
 | .b0 x=>.val (x.aT r) h
 | .pick c a b=>match c.aT r with
   | .bool t=>.val (bif t then a.aT r else b.aT r) h
   | _=>.fail
 | .new z=>hr (.ptr (aj h.next) 0) (gG h z)
 | .box x=>bif (x.aT r).gd then hr (.ptr (aj h.next) 0) (gG h (x.aT r).cells) else .fail
 | .build z bm=>(match jk z (kI r bm) with
   | some cs=>.val (.agg cs) h
   | none=>.fail)
 | .il n _ z bm=>match jk (hG z n) (kI r bm) with
   | some cs=>(match gG h cs with
     | some ab=>.val (.slice (aj h.next) 0 n n) ab
     | none=>.fail)
   | none=>.fail
 | .d' x=>a7.of h (nA h (x.aT r))
 | .iM n x=>a7.of h (nz n h (x.aT r))
 | .st n x y=>hr .bad (xv n h (x.aT r) (y.aT r))
 | .h2 x=>a7.of h (uD (x.aT r))
 | .bin k x y=>a7.of h (k.run P (x.aT r) (y.aT r))
 | .un op x=>a7.of h (rO op (x.aT r))
 | .km k x=>k.run P (x.aT r) h
 | .fn f eX=>.val (.func f (aX.ga r eX)) h
 | .Cx f first=>.val (.oD f (aX.ga r first)) h
 | .Ea t z ok x=>a7.of h (AW t z ok (x.aT r))
 | .sO t x=>.val (.iface t (x.aT r)) h
 | .sZ n z l c=>sW n z (l.aT r) (c.aT r) h
 | .rL x bC ao m3=>a7.of h (mL (x.aT r) (aX.opt r bC) (aX.opt r ao) (aX.opt r m3))
 | .fY n x bC ao m3=>a7.of h (match x.aT r with
   | .bB=>xq (aX.opt r bC) (aX.opt r ao) (aX.opt r m3)
   | .slice b off jU cap=>s_ n b off jU cap (aX.opt r bC) (aX.opt r ao) (aX.opt r m3)
   | .dY b off jU idx=>qB n b off jU idx (aX.opt r bC) (aX.opt r ao) (aX.opt r m3)
   | .hP b off lp idx=>C4 b off lp idx (aX.opt r bC) (aX.opt r ao) (aX.opt r m3)
   | _=>none)
 | .eH off x=>a7.of h ((x.aT r).j0 none fun b o=>some (.ptr b (o+off)))
 | .vT off x=>a7.of h (match x.aT r with
   | .agg cs=>cs[off]?
   | _=>none)
 | .vU off n x=>a7.of h (match x.aT r with
   | .agg cs=>some (.agg ((cs.drop off).take n))
   | _=>none)
 | .cH n x i=>a7.of h ((wP n).run (x.aT r) (i.aT r))
 | .lU n s x i=>a7.of h ((sQ n s).run (x.aT r) (i.aT r))
 | .mA x i=>a7.of h (sS.run (x.aT r) (i.aT r))
 | .kb t x i=>a7.of h ((sR P t).run (x.aT r) (i.aT r))
 | .look k z ok x i=>a7.of h (ru k.eq z ok h (x.aT r) (i.aT r))
 | .eU k m i x=>hr .bad (k0 k.eq h (m.aT r) (i.aT r) (x.aT r))
 | .nC x=>sV (aX.opt r x) h
 | .zV x=>(match x.aT r with
   | .str s=>.val (.ptr (aj h.next) 0) (h.new (.iter s 0))
   | _=>.fail)
 | .zD x=>w9 (x.aT r) h
 | .ext x i=>(match x.aT r with
   | .tuple ai=>a7.of h ai[i]?
   | _=>.fail)
 | .call f args=>call f (aX.ga r args) h
 | .o1 f args=>(f.aT r).zH (aX.ga r args) fun g xs=>call g xs h
 | .len k x=>k.run (x.aT r) h
 | .app n s x=>ij n (s.aT r) (x.aT r) h
 | .copy n d s=>copyV n (d.aT r) (s.aT r) h
 | .uC args=>a7.of h (kU (fun b a=>!Int.leB a b) (aX.ga r args))
 | .ed args=>a7.of h (kU (fun b a=>!Int.leB b a) (aX.ga r args))
 | .QU z x=>Et z (x.aT r) h
 | .tL x=>a7.of h (se (x.aT r))
 | .x' n z s x=>x9 n z (s.aT r) (x.aT r) h
 | .rr z ok x i=>a7.of h (jq ⟨hs h⟩ z ok h (x.aT r) (i.aT r))
 | .looks k z ok x i=>a7.of h (bif nw P k (i.aT r) then jq (structEq P k) z ok h (x.aT r) (i.aT r) else none)
 | .xB m i x=>hr .bad (k0 ⟨hs h⟩ h (m.aT r) (i.aT r) (x.aT r))
 | .Da k m i x=>hr .bad (bif nw P k (i.aT r) then k0 (structEq P k) h (m.aT r) (i.aT r) (x.aT r) else none)
 | .w5 z m i=>ym z (m.aT r) (i.aT r) h
 | .Cw k z m i=>EC P k z (m.aT r) (i.aT r) h
 | .vS m s x=>hr .bad (tR h (m.aT r) (s.aT r) (x.aT r))
 | .C1 x=>rangeMap (x.aT r) h
 | .CG x=>hf (x.aT r) h
 | .Bd x=>Be (x.aT r) h
 | .peq neg x y=>a7.of h (uN neg h (x.aT r) (y.aT r))
def MC (P:Program) (op:BinOp) (t:TypeId):eC:=
 match op with
 | .shl=>.shl
 | .shr=>.shr
 | op=>match a' P t with
   | none=>.other op t
   | some aR=>match aR.bh with
     | .int _=>.int op
     | .string=>.str op
     | .bool=>(match op with
       | .eql=>.yq false
       | .neq=>.yq true
       | _=>.other op t)
     | .pointer _=>(match op with
       | .eql=>.jL false 1
       | .neq=>.jL true 1
       | _=>.other op t)
     | .slice _=>(match op with
       | .eql=>.jL false 2
       | .neq=>.jL true 2
       | _=>.other op t)
     | .map _ _=>(match op with
       | .eql=>.jL false 3
       | .neq=>.jL true 3
       | _=>.other op t)
     | .func _ _ _=>(match op with
       | .eql=>.jL false 4
       | .neq=>.jL true 4
       | _=>.other op t)
     | _=>.other op t
def MH (P:Program) (op:BinOp) (t:TypeId) (lit:Bool):eC:=
 bif lit then (match a' P t with
  | some aR=>match aR.bh with
    | .interface _=>match op with
      | .eql=>.jL false 5
      | .neq=>.jL true 5
      | _=>.jL false 99
    | _=>.jL false 99
  | none=>.jL false 99) else MC P op t
def MF (P:Program) (s d:TypeId):tn:=
 match a' P s,a' P d with
 | some uV,some o2=>match o2.bh with
   | .int k=>.int k
   | .string=>match uV.bh with
     | .slice e=>match a' P e with
       | some ba=>match ba.bh with
         | .int .u8=>.str
         | _=>.other s d
       | none=>.other s d
     | _=>.other s d
   | .slice e=>match a' P e with
     | some ba=>match ba.bh with
       | .int .u8=>.bytes
       | _=>.other s d
     | none=>.other s d
   | _=>.other s d
 | _,_=>.other s d
def qu (place:Nat->Option (Nat × Nat)):List (Nat × Operand)->Option (List (Nat × Nat × aX))
 | []=>some []
 | (i,x)::bm=>match place i with
   | none=>none
   | some (off,size)=>match qu place bm with
     | none=>none
     | some l=>some ((off,size,rx x)::l)
def V3 (P:Program) (t:TypeId) (bm:List (Nat × Operand)):G:=
 match a' P t with
 | some aR=>match aR.zero with
   | some z=>match aR.bh with
     | .struct cx=>bif EN P cx.toList then (match qu (yv P cx) bm with
       | some l=>.build z.cells l
       | none=>.bad) else .bad
     | .array _ e=>match a' P e with
       | some ba=>(match qu (fun i=>some (i * ba.size,ba.size)) bm with
         | some l=>.build z.cells l
         | none=>.bad)
       | none=>.bad
     | _=>.bad
   | none=>.bad
 | none=>.bad
def V6 (P:Program) (t:TypeId) (len:Nat) (bm:List (Nat × Operand)):G:=
 match a' P t with
 | some aR=>match aR.bh with
   | .slice e=>match a' P e with
     | some ba=>match ba.zero with
       | some z=>bif Nat.ble (len * ba.size) 1000000&&Nat.beq z.cells.length ba.size then
          (match qu (fun i=>some (i * ba.size,ba.size)) bm with
          | some l=>.il len ba.size z.cells l
          | none=>.bad) else .bad
       | none=>.bad
     | none=>.bad
   | _=>.bad
 | none=>.bad
def wT:TypeDesc->Option mV
 | .int _=>some .int
 | .string=>some .str
 | .bool=>some .bool
 | _=>none
def I1 (P:Program) (t:TypeId):Option (List V):=
 match a' P t with
 | some aR=>match aR.bh with
   | .slice e=>match a' P e with
     | some ba=>match ba.zero with
       | some z=>some z.cells
       | none=>none
     | none=>none
   | _=>none
 | none=>none
theorem abN (P:Program) (t:TypeId):A5 P t=I1 P t:=rfl
def ME (P:Program) (c:Call):G:=
 match c.callee with
 | .value (.func f)=>bif Nat.beq f dy then .bad else .call f (nI c.args.toList)
 | .value x=>.o1 (rx x) (nI c.args.toList)
 | .invoke _ _=>.bad
 | .builtin b=>match b with
   | .len=>match c.argTypes.toList,c.args.toList with
     | [t],[x]=>(match a' P t with
       | some aR=>(match aR.bh with
         | .map _ _=>.len .map (rx x)
         | .array n _=>.len (.arr n) (rx x)
         | .string=>.len .str (rx x)
         | .slice _=>.len .slice (rx x)
         | _=>.bad)
       | none=>.bad)
     | _,_=>.bad
   | .append=>match c.argTypes.toList,c.args.toList with
     | [t,u],[s,x]=>(match a' P t,a' P u with
       | some aR,some tg=>(match tg.bh with
         | .int _=>(match aR.bh with
           | .slice e=>(match a' P e with
             | none=>.bad
             | some ba=>match ba.zero with
               | none=>.bad
               | some z=>bif Nat.ble 1 ba.size&&Nat.ble ba.bytes 4096&&Nat.beq z.cells.length ba.size then .x' ba.size z.cells (rx s) (rx x) else .bad)
           | _=>.bad)
         | _=>match aR.bh with
           | .slice e=>(match a' P e with
             | none=>.bad
             | some ba=>match ba.zero with
               | none=>.bad
               | some z=>bif Nat.ble 1 ba.size&&Nat.ble ba.bytes 4096&&Nat.beq z.cells.length ba.size then .app ba.size (rx s) (rx x) else .bad)
           | _=>.bad)
       | _,_=>.bad)
     | _,_=>.bad
   | .copy=>match c.argTypes.toList,c.args.toList with
     | t::_,[d,s]=>(match a' P t with
       | some aR=>(match aR.bh with
         | .slice e=>(match a' P e with
           | some ba=>.copy ba.size (rx d) (rx s)
           | none=>.bad)
         | _=>.bad)
       | none=>.bad)
     | _,_=>.bad
   | .min=>.uC (nI c.args.toList)
   | .max=>.ed (nI c.args.toList)
   | .clear=>match c.argTypes.toList,c.args.toList with
     | [t],[x]=>(match I1 P t with
       | some z=>.QU z (rx x)
       | none=>.bad)
     | _,_=>.bad
   | .cap=>match c.argTypes.toList,c.args.toList with
     | [t],[x]=>(match a' P t with
       | some aR=>bif Cc aR.bh then .tL (rx x) else .bad
       | none=>.bad)
     | _,_=>.bad
   | _=>.bad
def GU (P:Program) (op:Op):G:=
 match op with
 | .move x=>.b0 (rx x)
 | .assign x=>.b0 (rx x)
 | .pick c a b=>.pick (rx c) (rx a) (rx b)
 | .alloc t=>(match a' P t with
   | some aR=>(match aR.zero with
     | some z=>.new z.cells
     | none=>.bad)
   | none=>.bad)
 | .box _ x=>.box (rx x)
 | .build t bm=>V3 P t bm.toList
 | .buildSlice t n bm=>V6 P t n bm.toList
 | .load t x=>(match a' P t with
   | none=>.bad
   | some aR=>bif aR.agg then .iM aR.size (rx x) else bif Nat.beq aR.size 1 then .d' (rx x) else .bad)
 | .store t x y=>(match a' P t with
   | none=>.bad
   | some aR=>.st aR.size (rx x) (rx y))
 | .nilCheck x=>.h2 (rx x)
 | .binOp op t x y _=>.bin (MH P op t (rq x||rq y)) (rx x) (rx y)
 | .unOp op _ x=>.un op (rx x)
 | .convert s d x=>.km (MF P s d) (rx x)
 | .makeFunc (.func f) first eX=>bif first.isEmpty&&!Nat.beq f dy then .fn f (nI eX.toList) else bif eX.isEmpty&&!Nat.beq f dy then .Cx f (nI first.toList) else .bad
 | .makeInterface t x=>(match a' P t with
   | some aR=>bif Nat.beq (fi aR.bh) 5 then .bad else .sO t (rx x)
   | none=>.bad)
 | .makeSlice t l c=>(match a' P t with
   | some aR=>(match aR.bh with
     | .slice e=>(match a' P e with
       | some ba=>(match ba.zero with
         | some z=>bif Nat.ble ba.bytes 4096 then .sZ ba.size z.cells (rx l) (rx c) else .bad
         | none=>.bad)
       | none=>.bad)
     | _=>.bad)
   | none=>.bad)
 | .slice t x bC ao ed=>(match a' P t with
   | none=>.bad
   | some aR=>match aR.bh with
     | .string=>.rL (rx x) (s' bC) (s' ao) (s' ed)
     | .slice e=>(match a' P e with
       | none=>.bad
       | some ba=>.fY ba.size (rx x) (s' bC) (s' ao) (s' ed))
     | _=>.bad)
 | .fieldAddr t x i=>(match qZ P t i with
   | none=>.bad
   | some f=>match a' P f.type with
     | none=>.bad
     | some kK=>bif Nat.beq kK.size 0 then .bad else .eH f.offset (rx x))
 | .field t x i=>(match qZ P t i with
   | none=>.bad
   | some f=>match a' P f.type with
     | none=>.bad
     | some aR=>bif aR.agg then .vU f.offset aR.size (rx x) else .vT f.offset (rx x))
 | .indexAddr t x i=>(match a' P t with
   | none=>.bad
   | some aR=>match aR.bh with
     | .slice e=>(match a' P e with
       | none=>.bad
       | some ba=>.cH ba.size (rx x) (rx i))
     | .array n e=>(match a' P e with
       | none=>.bad
       | some ba=>.lU n ba.size (rx x) (rx i))
     | _=>.bad)
 | .index t x i=>(match a' P t with
   | none=>.bad
   | some aR=>match aR.bh with
     | .string=>.mA (rx x) (rx i)
     | _=>.kb t (rx x) (rx i))
 | .range t x=>(match a' P t with
   | some aR=>(match aR.bh with
     | .string=>.zV (rx x)
     | .map _ _=>.C1 (rx x)
     | _=>.bad)
   | none=>.bad)
 | .next it s=>bif s then .zD (rx it) else .CG (rx it)
 | .entry it=>.Bd (rx it)
 | .lookup t x k ok=>(match a' P t with
   | some aR=>(match aR.bh with
     | .map bg e=>(match a' P bg with
       | some gO=>(match a' P e with
         | some ba=>(match ba.zero with
           | some z=>(match wT gO.bh with
             | some dj=>.look dj z ok (rx x) (rx k)
             | none=>bif kQ gO.bh then .bad else bif jr P bg then .rr z ok (rx x) (rx k) else bif mb P bg then .looks bg z ok (rx x) (rx k) else .bad)
           | none=>.bad)
         | none=>.bad)
       | none=>.bad)
     | _=>.bad)
   | none=>.bad)
 | .mapUpdate t m k x | .insert t m k x=>(match a' P t with
   | some aR=>(match aR.bh with
     | .map bg _=>(match a' P bg with
       | some gO=>(match wT gO.bh with
         | some dj=>.eU dj (rx m) (rx k) (rx x)
         | none=>bif kQ gO.bh then .bad else bif jr P bg then .xB (rx m) (rx k) (rx x) else bif mb P bg then .Da bg (rx m) (rx k) (rx x) else .bad)
       | none=>.bad)
     | _=>.bad)
   | none=>.bad)
 | .mapEntry t m k=>(match a' P t with
   | some aR=>(match aR.bh with
     | .map bg e=>(match a' P e with
       | some ba=>(match ba.zero with
         | some z=>bif jr P bg then .w5 z (rx m) (rx k) else bif mb P bg then .Cw bg z (rx m) (rx k) else .bad
         | none=>.bad)
       | none=>.bad)
     | _=>.bad)
   | none=>.bad)
 | .entryStore _ m st x=>.vS (rx m) (rx st) (rx x)
 | .makeMap t x=>(match a' P t with
   | some aR=>bif Nat.beq (fi aR.bh) 3 then .nC (s' x) else .bad
   | none=>.bad)
 | .extract x i=>.ext (rx x) i
 | .typeAssert x _ t ok=>(match a' P t with
   | some aR=>bif Nat.beq (fi aR.bh) 5 then .bad else .Ea t aR.zero ok (rx x)
   | none=>.bad)
 | .call c=>ME P c
 | _=>.bad
def ef (cg:bI):bc:=fun t=>T.get .bad (aj t) cg
theorem e8 (cg:bI) (x:Operand):(bT x).run cg=(rx x).aT (ef cg):=by
 cases x with
 | tmp t=>
   simp only [bT,rx];cases Nat.ble t top<;>rfl
 | const v=>rfl
 | func f=>
   simp only [bT,rx];cases Nat.beq f dy<;>rfl
 | global g=>rfl
theorem ys (cg:bI):∀xs:List Operand,(qW xs).run cg=aX.ga (ef cg) (nI xs)
 | []=>rfl
 | x::xs=>by simp only [qW,nI,aX.ga,e8,ys cg xs]
theorem L4 (cg:bI) (x:Option Operand):(rF x).run cg=aX.opt (ef cg) (s' x):=by
 cases x with
 | none=>rfl
 | some x=>simp only [rF,s',aX.opt,e8]
theorem EO (cg:bI) {place:Nat->Option (Nat × Nat)}:∀{bm:List (Nat × Operand)} {l:List (Nat × Nat × aX)},qu place bm=some l->∀cells,nb place cells ((uJ bm).run cg)=jk cells (kI (ef cg) l)
 | [],l,h,cells=>by simp only [qu,Option.some.injEq] at h;subst h;rfl
 | (i,x)::bm,l,h,cells=>by
   simp only [qu] at h;cases af:place i with
   | none=>rw [af] at h;cases h
   | some os=>
     obtain ⟨off,size⟩:=os;rw [af] at h;simp only at h;cases aA:qu place bm with
     | none=>rw [aA] at h;cases h
     | some fh=>
       rw [aA] at h;simp only [Option.some.injEq] at h;subst h;simp only [uJ,nb,af,kI,jk,e8];cases ((rx x).aT (ef cg)).gd&&(Nat.beq ((rx x).aT (ef cg)).cells.length size&&Nat.ble (off + ((rx x).aT (ef cg)).cells.length) cells.length) with
       | false=>rfl
       | true=>exact EO cg aA _
section
variable {P:Program}
theorem amh (op:BinOp) (t:TypeId):(MC P op t).run P=(r_ P op t).run:=by
 unfold MC r_;cases op<;>first | rfl | skip
 all_goals
  cases av:a' P t with
  | none=>simp only [eC.run];unfold r_;rw [av]
  | some aR=>
    simp only;cases hu:aR.bh<;>first | rfl | (simp only [eC.run];unfold r_;rw [av];simp only [hu];done) | (simp only [eC.run];unfold pT hW;simp only [av,hu];first | done | rfl)
theorem amk (op:BinOp) (t:TypeId) (lit:Bool):(MH P op t lit).run P=(AZ P op t lit).run:=by
 unfold MH AZ;cases lit with
 | false=>simp only [cond_false];exact amh op t
 | true=>
   simp only [cond_true];cases a' P t with
   | none=>rfl
   | some aR=>
     simp only;cases aR.bh<;>first | rfl | (cases op<;>rfl)
theorem amj (s d:TypeId):(MF P s d).run P=(qR P s d).run:=by
 unfold MF
 split
 . rename_i uV o2 aS bb
   split
   . rename_i k hu;simp only [tn.run];unfold qR;rw [aS,bb];simp only [hu]
   . rename_i hu
     split
     . rename_i e bj
       split
       . rename_i ba he
         split
         . rename_i hw;simp only [tn.run];unfold qR;rw [aS,bb];simp only [hu,bj,he,hw]
         . rfl
       . rfl
     . rfl
   . rename_i e hu
     split
     . rename_i ba he
       split
       . rename_i hw;simp only [tn.run];unfold qR;rw [aS,bb];simp only [hu,he,hw]
       . rfl
     . rfl
   . rfl
 . rfl
theorem Lh {d:TypeDesc} {dj:mV} (h:wT d=some dj):kQ d=true/\ll d=dj.eq:=by cases d<;>simp only [wT] at h<;>first | (cases h;done) | (cases h;exact ⟨rfl,rfl⟩)
theorem ami {c:Call} {call:dQ} {cg:bI} {h ab:ah} {v:V} (he:(ME P c).run P call (ef cg) h=.val v ab):(sc P c).run call cg h=.val v ab:=by
 unfold ME at he;unfold sc
 split at he
 . rename_i f aD;rw [aD];cases aZ:Nat.beq f dy with
   | true=>rw [aZ] at he;cases he
   | false=>
     rw [aZ] at he;simp only [cond_false,G.run] at he;simpa only [bT,aZ,cond_false,qV,V.zH,ys,List.append_nil] using he
 . rename_i x ak aD;rw [aD];simp only [G.run] at he;simpa only [e8,ys] using he
 . cases he
 . rename_i b aD;rw [aD];simp only [ys];cases b<;>simp only at he<;>try (cases he;done)
   case len=>
    split at he
    . rename_i t x av ak;cases ku:a' P t with
      | none=>rw [ku] at he;cases he
      | some aR=>
        rw [ku] at he;simp only at he;simp only [qQ,av,ku,ak,nI,aX.ga];cases hu:aR.bh<;>rw [hu] at he<;>first | (cases he;done) | (simpa only [uv,cond_true,cond_false,G.run,DP.run,po,a7.of] using he)
    . cases he
   case append=>
    split at he
    . rename_i t u s x av ak
      split at he
      . rename_i aR tg ku za;simp only [qQ,av,ak,nI,aX.ga,D8,ku,za]
        split at he
        . rename_i k af2
          split at he
          . rename_i e cu;cases eR:a' P e with
            | none=>rw [eR] at he;cases he
            | some ba=>
              rw [eR] at he;simp only at he;cases bn:ba.zero with
              | none=>rw [bn] at he;cases he
              | some z=>
                rw [bn] at he;simp only at he;cases ae:(Nat.ble 1 ba.size&&Nat.ble ba.bytes 4096&&Nat.beq z.cells.length ba.size) with
                | false=>rw [ae] at he;cases he
                | true=>
                  rw [ae] at he;simp only [cond_true,G.run] at he;simp only [af2,cu,eR,bn,ae,cond_true];exact he
          . cases he
        . rename_i ck
          split at he
          . rename_i e cu;cases eR:a' P e with
            | none=>rw [eR] at he;cases he
            | some ba=>
              rw [eR] at he;simp only at he;cases bn:ba.zero with
              | none=>rw [bn] at he;cases he
              | some z=>
                rw [bn] at he;simp only at he;cases ae:(Nat.ble 1 ba.size&&Nat.ble ba.bytes 4096&&Nat.beq z.cells.length ba.size) with
                | false=>rw [ae] at he;cases he
                | true=>
                  rw [ae] at he;simp only [cond_true,G.run] at he;cases KY:tg.bh<;>first
                   | (exact absurd KY (ck _))
                   | (simp only [cu,eR,bn,ae,cond_true];exact he)
          . cases he
      . cases he
    . cases he
   case copy=>
    split at he
    . rename_i t cN d s av ak;cases ku:a' P t with
      | none=>rw [ku] at he;cases he
      | some aR=>
        rw [ku] at he;simp only at he
        split at he
        . rename_i e cu;cases eR:a' P e with
          | none=>rw [eR] at he;cases he
          | some ba=>
            rw [eR] at he;simp only [G.run] at he;simp only [qQ,av,ak,nI,aX.ga,Eu,ku,cu,eR];exact he
        . cases he
    . cases he
   case min=>exact he
   case max=>exact he
   case clear=>
    split at he
    . rename_i t x av ak;cases aD:I1 P t with
      | none=>rw [aD] at he;cases he
      | some z=>
        rw [aD] at he;simp only [G.run] at he;simp only [qQ,av,ak,nI,aX.ga,abN,aD];exact he
    . cases he
   case cap=>
    split at he
    . rename_i t x av ak;cases ku:a' P t with
      | none=>rw [ku] at he;cases he
      | some aR=>
        rw [ku] at he;simp only at he;cases ae:Cc aR.bh with
        | false=>rw [ae] at he;cases he
        | true=>
          rw [ae] at he;simp only [cond_true,G.run] at he;simp only [qQ,av,ak,nI,aX.ga,ku,ae,cond_true];exact he
    . cases he
theorem V4 {o:Oper} {call:dQ} {cg:bI} {h ab:ah} {v:V} (he:(GU P o.op).run P call (ef cg) h=.val v ab):(fw P o).run call cg h=.val v ab:=by
 obtain ⟨dst,op,type,pos,after,guard⟩:=o;cases op<;>simp only [GU] at he<;>try (cases he;done)
 all_goals simp only [fw]
 case move x=>simpa only [e8,G.run] using he
 case assign x=>simpa only [e8,G.run] using he
 case pick c a b=>
  simp only [e8,G.run] at he ⊢;generalize (rx c).aT (ef cg)=q at he ⊢;cases q<;>exact he
 case alloc t=>
  cases av:a' P t with
  | none=>rw [av] at he;cases he
  | some aR=>
    rw [av] at he;simp only at he ⊢;cases bn:aR.zero with
    | none=>rw [bn] at he;cases he
    | some z=>rw [bn] at he;exact he
 case box t x=>simpa only [e8,G.run] using he
 case build t bm=>
  unfold V3 at he;unfold Ei;cases av:a' P t with
  | none=>rw [av] at he;cases he
  | some aR=>
    rw [av] at he;simp only at he ⊢;cases bn:aR.zero with
    | none=>rw [bn] at he;cases he
    | some z=>
      rw [bn] at he;simp only at he ⊢;cases hu:aR.bh<;>rw [hu] at he<;>simp only at he ⊢<;>try (cases he;done)
      . rename_i n e;cases eR:a' P e with
        | none=>rw [eR] at he;cases he
        | some ba=>
          rw [eR] at he;simp only at he ⊢;cases af:qu (fun i=>some (i * ba.size,ba.size)) bm.toList with
          | none=>rw [af] at he;cases he
          | some l=>
            rw [af] at he;simp only [G.run] at he;rw [EO cg af];cases az:jk z.cells (kI (ef cg) l) with
            | none=>rw [az] at he;cases he
            | some cs=>rw [az] at he;exact he
      . rename_i cx;cases aH:EN P cx.toList with
        | false=>rw [aH] at he;cases he
        | true=>
          rw [aH] at he;simp only [cond_true] at he ⊢;cases af:qu (yv P cx) bm.toList with
          | none=>rw [af] at he;cases he
          | some l=>
            rw [af] at he;simp only [G.run] at he;rw [EO cg af];cases az:jk z.cells (kI (ef cg) l) with
            | none=>rw [az] at he;cases he
            | some cs=>rw [az] at he;exact he
 case buildSlice t n bm=>
  unfold V6 at he;unfold vE;cases av:a' P t with
  | none=>rw [av] at he;cases he
  | some aR=>
    rw [av] at he;simp only at he ⊢;cases hu:aR.bh<;>rw [hu] at he<;>simp only at he ⊢<;>try (cases he;done)
    rename_i e;cases eR:a' P e with
    | none=>rw [eR] at he;cases he
    | some ba=>
      rw [eR] at he;simp only at he ⊢;cases bn:ba.zero with
      | none=>rw [bn] at he;cases he
      | some z=>
        rw [bn] at he;simp only at he ⊢;cases ae:(Nat.ble (n * ba.size) 1000000&&Nat.beq z.cells.length ba.size) with
        | false=>rw [ae] at he;cases he
        | true=>
          rw [ae] at he;simp only [cond_true] at he ⊢;cases af:qu (fun i=>some (i * ba.size,ba.size)) bm.toList with
          | none=>rw [af] at he;cases he
          | some l=>
            rw [af] at he;simp only [G.run] at he;rw [EO cg af];exact he
 case load t x=>
  unfold ql;cases av:a' P t with
  | none=>rw [av] at he;cases he
  | some aR=>
    rw [av] at he;simp only at he ⊢;cases a1:aR.agg with
    | true=>rw [a1] at he;simpa only [cond_true,e8,G.run] using he
    | false=>
      rw [a1] at he;simp only [cond_false] at he ⊢;cases aS:Nat.beq aR.size 1 with
      | true=>rw [aS] at he;simpa only [cond_true,e8,G.run] using he
      | false=>rw [aS] at he;cases he
 case store t x y=>
  unfold ta;cases av:a' P t with
  | none=>rw [av] at he;cases he
  | some aR=>rw [av] at he;simpa only [e8,G.run] using he
 case nilCheck x=>simpa only [e8,G.run] using he
 case binOp op t x y t2=>simpa only [e8,G.run,amk] using he
 case unOp op t x=>simpa only [e8,G.run] using he
 case convert s d x=>simpa only [e8,G.run,amj] using he
 case makeFunc fn first eX=>
  cases fn<;>simp only at he<;>try (cases he;done)
  simp only;cases az:(first.isEmpty&&!Nat.beq _ dy) with
  | true=>rw [az] at he;simpa only [cond_true,ys,G.run] using he
  | false=>
    rw [az] at he;simp only [cond_false] at he ⊢;cases jO:(eX.isEmpty&&!Nat.beq _ dy) with
    | true=>rw [jO] at he;simpa only [cond_true,ys,G.run] using he
    | false=>rw [jO] at he;cases he
 case typeAssert x u6 t ok=>
  cases av:a' P t with
  | none=>rw [av] at he;cases he
  | some aR=>
    rw [av] at he;simp only at he ⊢;cases ae:Nat.beq (fi aR.bh) 5 with
    | true=>rw [ae] at he;cases he
    | false=>rw [ae] at he;simpa only [cond_false,e8,G.run] using he
 case makeInterface t x=>
  cases av:a' P t with
  | none=>rw [av] at he;cases he
  | some aR=>
    rw [av] at he;simp only at he ⊢;cases ae:Nat.beq (fi aR.bh) 5 with
    | true=>rw [ae] at he;cases he
    | false=>rw [ae] at he;simpa only [cond_false,e8,G.run] using he
 case makeSlice t l c=>
  unfold w2;cases av:a' P t with
  | none=>rw [av] at he;cases he
  | some aR=>
    rw [av] at he;simp only at he ⊢;cases hu:aR.bh<;>rw [hu] at he<;>simp only at he ⊢<;>try (cases he;done)
    rename_i e;cases eR:a' P e with
    | none=>rw [eR] at he;cases he
    | some ba=>
      rw [eR] at he;simp only at he ⊢;cases bn:ba.zero with
      | none=>rw [bn] at he;cases he
      | some z=>
        rw [bn] at he;simp only at he ⊢;cases ae:Nat.ble ba.bytes 4096 with
        | false=>rw [ae] at he;cases he
        | true=>rw [ae] at he;simpa only [cond_true,e8,G.run] using he
 case slice t x bC ao m3=>
  unfold G3;cases av:a' P t with
  | none=>rw [av] at he;cases he
  | some aR=>
    rw [av] at he;simp only at he ⊢;cases hu:aR.bh<;>rw [hu] at he<;>simp only at he ⊢<;>try (cases he;done)
    . simpa only [e8,L4,G.run] using he
    . rename_i e;cases eR:a' P e with
      | none=>rw [eR] at he;cases he
      | some ba=>
        rw [eR] at he;simp only [e8,L4,G.run] at he ⊢;generalize (rx x).aT (ef cg)=q at he ⊢;cases q<;>exact he
 case fieldAddr t x i=>
  unfold EK;cases az:qZ P t i with
  | none=>rw [az] at he;cases he
  | some f=>
    rw [az] at he;simp only at he ⊢;cases av:a' P f.type with
    | none=>rw [av] at he;cases he
    | some kK=>
      rw [av] at he;simp only at he ⊢;cases ae:Nat.beq kK.size 0 with
      | true=>rw [ae] at he;cases he
      | false=>rw [ae] at he;simpa only [cond_false,e8,G.run] using he
 case field t x i=>
  unfold EL;cases az:qZ P t i with
  | none=>rw [az] at he;cases he
  | some f=>
    rw [az] at he;simp only [qs] at he ⊢;cases av:a' P f.type with
    | none=>rw [av] at he;cases he
    | some kK=>
      rw [av] at he;simp only at he ⊢;cases ae:kK.agg with
      | true=>
        rw [ae] at he;simp only [cond_true,e8,G.run] at he ⊢;generalize (rx x).aT (ef cg)=q at he ⊢;cases q<;>exact he
      | false=>
        rw [ae] at he;simp only [cond_false,e8,G.run] at he ⊢;generalize (rx x).aT (ef cg)=q at he ⊢;cases q<;>exact he
 case indexAddr t x i=>
  unfold FV;cases av:a' P t with
  | none=>rw [av] at he;cases he
  | some aR=>
    rw [av] at he;simp only at he ⊢;cases hu:aR.bh<;>rw [hu] at he<;>simp only at he ⊢<;>try (cases he;done)
    all_goals
     rename_i e;cases eR:a' P e with
     | none=>rw [eR] at he;cases he
     | some ba=>rw [eR] at he;simpa only [e8,G.run] using he
 case index t x i=>
  cases av:a' P t with
  | none=>rw [av] at he;cases he
  | some aR=>
    rw [av] at he;simp only at he;cases hu:aR.bh<;>rw [hu] at he<;>simp only [G.run] at he
    case string=>
     unfold sR;rw [av];simp only [hu];simpa only [e8] using he
    all_goals simpa only [e8] using he
 case range t x=>
  unfold GQ;cases av:a' P t with
  | none=>rw [av] at he;cases he
  | some aR=>
    rw [av] at he;simp only at he ⊢;cases hu:aR.bh<;>rw [hu] at he<;>simp only at he ⊢<;>try (cases he;done)
    all_goals simp only [e8,G.run] at he ⊢
    all_goals first
     | exact he
     | (generalize (rx x).aT (ef cg)=q at he ⊢
        cases q<;>exact he)
 case next it b=>
  cases b<;>simpa only [cond_true,cond_false,e8,G.run] using he
 case entry it=>simpa only [e8,G.run] using he
 case mapEntry t m k=>
  unfold Gg;cases av:a' P t with
  | none=>rw [av] at he;cases he
  | some aR=>
    rw [av] at he;simp only at he ⊢;cases hu:aR.bh<;>rw [hu] at he<;>simp only at he ⊢<;>try (cases he;done)
    rename_i bg e;cases eR:a' P e with
    | none=>rw [eR] at he;cases he
    | some ba=>
      rw [eR] at he;simp only at he ⊢;cases bn:ba.zero with
      | none=>rw [bn] at he;cases he
      | some z=>
        rw [bn] at he;simp only at he ⊢;cases af:jr P bg with
        | true=>rw [af] at he;simpa only [cond_true,e8,G.run] using he
        | false=>
          rw [af] at he;simp only [cond_false] at he ⊢;cases aS:mb P bg with
          | true=>rw [aS] at he;simpa only [cond_true,e8,G.run] using he
          | false=>rw [aS] at he;cases he
 case entryStore t m st x=>simpa only [e8,G.run] using he
 case lookup t x k ok=>
  unfold Gd;cases av:a' P t with
  | none=>rw [av] at he;cases he
  | some aR=>
    rw [av] at he;simp only at he ⊢;cases hu:aR.bh<;>rw [hu] at he<;>simp only at he ⊢<;>try (cases he;done)
    rename_i bg e;cases aH:a' P bg with
    | none=>rw [aH] at he;cases he
    | some gO=>
      rw [aH] at he;simp only at he ⊢;cases eR:a' P e with
      | none=>rw [eR] at he;cases he
      | some ba=>
        rw [eR] at he;simp only at he ⊢;cases bn:ba.zero with
        | none=>rw [bn] at he;cases he
        | some z=>
          rw [bn] at he;simp only at he ⊢;cases kr:wT gO.bh with
          | none=>
            rw [kr] at he;simp only at he ⊢;cases az:kQ gO.bh with
            | true=>rw [az] at he;cases he
            | false=>
              rw [az] at he;simp only [cond_false] at he ⊢;cases af:jr P bg with
              | true=>rw [af] at he;simpa only [cond_true,e8,G.run] using he
              | false=>
                rw [af] at he;simp only [cond_false] at he ⊢;cases aS:mb P bg with
                | true=>rw [aS] at he;simpa only [cond_true,e8,G.run] using he
                | false=>rw [aS] at he;cases he
          | some dj=>
            rw [kr] at he;obtain ⟨ar,aw⟩:=Lh kr;simp only [ar,aw,cond_true];simpa only [e8,G.run] using he
 case mapUpdate t m k x=>
  unfold pG;cases av:a' P t with
  | none=>rw [av] at he;cases he
  | some aR=>
    rw [av] at he;simp only at he ⊢;cases hu:aR.bh<;>rw [hu] at he<;>simp only at he ⊢<;>try (cases he;done)
    rename_i bg e;cases aH:a' P bg with
    | none=>rw [aH] at he;cases he
    | some gO=>
      rw [aH] at he;simp only at he ⊢;cases kr:wT gO.bh with
      | none=>
        rw [kr] at he;simp only at he ⊢;cases az:kQ gO.bh with
        | true=>rw [az] at he;cases he
        | false=>
          rw [az] at he;simp only [cond_false] at he ⊢;cases af:jr P bg with
          | true=>rw [af] at he;simpa only [cond_true,e8,G.run] using he
          | false=>
            rw [af] at he;simp only [cond_false] at he ⊢;cases aS:mb P bg with
            | true=>rw [aS] at he;simpa only [cond_true,e8,G.run] using he
            | false=>rw [aS] at he;cases he
      | some dj=>
        rw [kr] at he;obtain ⟨ar,aw⟩:=Lh kr;simp only [ar,aw,cond_true];simpa only [e8,G.run] using he
 case insert t m k x=>
  unfold pG;cases av:a' P t with
  | none=>rw [av] at he;cases he
  | some aR=>
    rw [av] at he;simp only at he ⊢;cases hu:aR.bh<;>rw [hu] at he<;>simp only at he ⊢<;>try (cases he;done)
    rename_i bg e;cases aH:a' P bg with
    | none=>rw [aH] at he;cases he
    | some gO=>
      rw [aH] at he;simp only at he ⊢;cases kr:wT gO.bh with
      | none=>
        rw [kr] at he;simp only at he ⊢;cases az:kQ gO.bh with
        | true=>rw [az] at he;cases he
        | false=>
          rw [az] at he;simp only [cond_false] at he ⊢;cases af:jr P bg with
          | true=>rw [af] at he;simpa only [cond_true,e8,G.run] using he
          | false=>
            rw [af] at he;simp only [cond_false] at he ⊢;cases aS:mb P bg with
            | true=>rw [aS] at he;simpa only [cond_true,e8,G.run] using he
            | false=>rw [aS] at he;cases he
      | some dj=>
        rw [kr] at he;obtain ⟨ar,aw⟩:=Lh kr;simp only [ar,aw,cond_true];simpa only [e8,G.run] using he
 case makeMap t x=>
  unfold zv;cases av:a' P t with
  | none=>rw [av] at he;cases he
  | some aR=>
    rw [av] at he;simp only at he ⊢;cases ae:Nat.beq (fi aR.bh) 3 with
    | false=>rw [ae] at he;cases he
    | true=>rw [ae] at he;simpa only [cond_true,L4,G.run] using he
 case extract x i=>
  simp only [e8,G.run] at he ⊢;generalize (rx x).aT (ef cg)=q at he ⊢;cases q<;>exact he
 case call c=>exact ami he
end
end
end Go.Proofs.YthemdhlheglhoaaGreatDoor.a8
