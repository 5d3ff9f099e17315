/- The abstract machine and its walks (a verified interpreter of the model's code: plain definitions and lemmas, no condition). Printed by a program from longer texts: names made short. -/
import Derived.Test.YthemdhlheglhoaaGreatDoorM2
import Derived.Scope
import Derived.RangeFuncRecord
set_option linter.unusedSectionVars false
set_option linter.unusedSimpArgs false
set_option linter.unusedVariables false
set_option maxHeartbeats 64000000
noncomputable section
namespace Go.Proofs.YthemdhlheglhoaaGreatDoor.aY
section
open Go Go.RowKit
variable [Lay]
theorem Ea {α:Type} (p q:α->Bool):∀(l:List α),(∀x ∈ l,q x=true->p x=true)->(∃x ∈ l,p x=true/\q x=false)->l.countP q<l.countP p
 | [],_,h=>by obtain ⟨x,ai,_⟩:=h;simp at ai
 | a::l,aa,ad=>by
   have hle:l.countP q<=l.countP p:=List.countP_mono_left fun x ai=>aa x (by simp [ai]);obtain ⟨x,ai,af,aA⟩:=ad;simp only [List.mem_cons] at ai;rcases ai with rfl | ai
   . rw [List.countP_cons,List.countP_cons,af,aA];simp;omega
   . have bd:=Ea p q l (fun y a1=>aa y (by simp [a1])) ⟨x,ai,af,aA⟩;have aV:=aa a (by simp);rw [List.countP_cons,List.countP_cons];cases afQ:q a with
     | true=>rw [aV afQ];simp;omega
     | false=>simp;omega
theorem x7 (e:Edge):Region.binds .any e=vt e:=by unfold Region.binds vt;cases e.ground<;>rfl
section
variable {P:Program}
theorem uA {order:List Nat}:∀{bj:List Nat} {k j p:Nat},Cu order k bj=true->bj[j]? =some p->order[p]? =some (k+j)
 | [],_,j,p,_,h=>by simp at h
 | q::bj,k,j,p,af,h=>by
   simp only [Cu,Bool.and_eq_true] at af;cases j with
   | zero=>
     simp only [List.getElem?_cons_zero,Option.some.injEq] at h;subst h;have aa:=af.1;cases aA:order[q]? with
     | none=>rw [aA] at aa;cases aa
     | some i=>rw [aA] at aa;rw [Nat.beq_eq] at aa;rw [aa];rfl
   | succ j=>
     have:=uA af.2 (show bj[j]? =some p by simpa using h);rw [this];congr 1;omega
theorem nf {ops:Array Oper}:∀{order:List Nat} {p i:Nat} {o:Oper},order[p]? =some i->ops[i]? =some o->(hs ops order)[p]? =some o
 | [],p,i,o,h,_=>by simp at h
 | x::xs,p,i,o,h,aX=>by
   cases p with
   | zero=>
     simp only [List.getElem?_cons_zero,Option.some.injEq] at h;subst h;simp [hs,aX]
   | succ p=>simpa [hs] using nf (show xs[p]? =some i by simpa using h) aX
theorem qb {ops:Array Oper}:∀{order:List Nat},(hs ops order).length=order.length
 | []=>rfl
 | x::xs=>by simp [hs,qb (order:=xs)]
structure Cert (P:Program) (ar:Nat) (ops:Array Oper) (calls:Nat->dJ) (es:List eS) (bA:bB) (a8:ah) (cZ:bB) (aB:ah) (eu:List Nat) (order aE:List Nat) (N M:Nat) (lit:Bool):Prop where
 len:es.length=N
 Ce:N<=ops.size
 F8:N<=M
 ia:∀k,k<ops.size->posOf aE k<ops.size/\order[posOf aE k]? =some k
 la:∀p,p<ops.size->∃i,i<ops.size/\posOf aE i=p
 a8:cg es aB 0=a8
 bA:eh es cZ 0=bA
 step:∀i o,ops[i]? =some o->posOf aE i<N->∃e,es[posOf aE i]? =some e/\(cB P ar ops o).run (calls i) e.r e.h=.val e.v (cg es aB (posOf aE i+1))/\eh es cZ (posOf aE i+1)=(fK o.dst).run e.r e.v
 kC:∀i o,ops[i]? =some o->∃cP,(eI [] ops.toList)[i]? =some cP/\mq i o=true/\(posOf aE i<M->
  ∀k ok,ops[k]? =some ok->posOf aE k<M->∃mk,(eI [] ops.toList)[k]? =some mk/\pc i cP (b2 ops o) o.dst k mk ok (Nat.blt (posOf aE k) (posOf aE i))=true/\(e0 P o.op=true->ec P ok=true->posOf aE k<posOf aE i->fT cP k=true\/(lit=true/\k7 o=true/\k7 ok=true)))
 ends:N ∈ eu
 mem:∀j o,ops[j]? =some o->ec P o=true->posOf aE j ∈ eu
 WX:∀s ∈ eu,(s=ops.size\/(s=N/\M=N))\/∃k o,ops[k]? =some o/\ec P o=true/\s=posOf aE k
 ask:∀j o,ops[j]? =some o->looks o.op=true->e0 P o.op=false->posOf aE j<N->∃e,es[posOf aE j]? =some e/\∀s ∈ eu,
  sK P (eI [] ops.toList) ops.toList aE j (((eI [] ops.toList)[j]?).getD 0) s=true->∃c ab,(gW P c/\hb P c)/\(cB P ar ops o).run c e.r (cg es aB s)=.val e.v ab
 tail:M<ops.size->M=N/\∀k ok mk,ops[k]? =some ok->N<=posOf aE k->(eI [] ops.toList)[k]? =some mk->∀j,j<ops.size->posOf aE j<N->fT mk j=true
 stop:N<ops.size->ops.size<=M->∃i0 iT m0,ops[i0]? =some iT/\posOf aE i0=N/\lQ iT.op=true/\(eI [] ops.toList)[i0]? =some m0/\
  (∀k ok mk,ops[k]? =some ok->N<posOf aE k->(eI [] ops.toList)[k]? =some mk->fT mk i0=true)/\
  (∀k ok,ops[k]? =some ok->gR ok=true->posOf aE k<N->fT m0 k=true)/\∃v ab,(cB P ar ops iT).run (calls i0) cZ aB=.cM v ab
theorem Ux {o:Oper} (h:lQ o.op=true):e0 P o.op=true/\gR o=false:=by
 obtain ⟨dst,op,type,pos,after,guard⟩:=o;cases op<;>simp only [lQ] at h<;>try (cases h;done)
 . rename_i c;obtain ⟨callee,args,types⟩:=c;cases callee<;>simp only at h<;>try (cases h;done)
   exact ⟨rfl,rfl⟩
 . exact ⟨rfl,rfl⟩
variable {ar:Nat} {ops:Array Oper} {call:dJ} {calls:Nat->dJ} {es:List eS} {bA:bB} {a8:ah} {cZ:bB} {aB:ah} {eu:List Nat} {order aE:List Nat} {N M:Nat} {lit:Bool}
theorem Cert.w3 (C:Cert P ar ops calls es bA a8 cZ aB eu order aE N M lit) {k bo:Nat} (aa:k<ops.size) (ad:bo<ops.size) (he:posOf aE k=posOf aE bo):k=bo:=by have a:=(C.ia k aa).2;have b:=(C.ia bo ad).2;rw [he,b] at a;cases a;rfl
theorem Q8 {ops:Array Oper} {aE:List Nat} (aB:yc P ops aE=true):∀i o,ops[i]? =some o->∃cP,(eI [] ops.toList)[i]? =some cP/\mq i o=true/\
 ∀k ok,ops[k]? =some ok->∃mk,(eI [] ops.toList)[k]? =some mk/\pc i cP (b2 ops o) o.dst k mk ok (Nat.blt (posOf aE k) (posOf aE i))=true/\(e0 P o.op=true->ec P ok=true->posOf aE k<posOf aE i->fT cP k=true):=by
 intro i o aq;unfold yc at aB;obtain ⟨cP,aa,ad⟩:=qo aB i o (by simpa using aq);simp only [Nat.zero_add,Bool.and_eq_true] at ad;refine ⟨cP,aa,ad.1,fun k ok aD=>?_⟩;obtain ⟨mk,bK,bT⟩:=qo ad.2 k ok (by simpa using aD);simp only [Nat.zero_add,Bool.and_eq_true] at bT;refine ⟨mk,bK,bT.1,fun aN aZ aT=>?_⟩;have en:=bT.2;rw [aN,aZ,Bool.true_and,show Nat.blt (posOf aE k) (posOf aE i)=true from by rw [Nat.blt_eq];exact aT] at en;exact en
theorem Cert.MM (C:Cert P ar ops calls es bA a8 cZ aB eu order aE N M lit):∀p,p<=N->∀t,t<=top->
 (∃k o e,posOf aE k<p/\ops[k]? =some o/\o.dst=some t/\es[posOf aE k]? =some e/\T.get .bad (aj t) (eh es cZ p)=e.v)\/
 ((∀k o,posOf aE k<p->ops[k]? =some o->o.dst≠some t)/\T.get .bad (aj t) (eh es cZ p)=T.get .bad (aj t) bA)
 | 0,_,t,au=>.inr ⟨fun k o h=>by omega,by rw [C.bA]⟩
 | p+1,aq,t,au=>by
   obtain ⟨i,aT,j1⟩:=C.la p (by have:=C.Ce;omega);have cv:ops[i]? =some ops[i]:=Array.getElem?_eq_getElem aT;obtain ⟨e,aa,ad,aH⟩:=C.step i ops[i] cv (by omega);rw [j1] at aa ad aH;have K3:eh es cZ p=e.r:=by simp [eh,aa]
   have dN:=RV (r:=e.r) (v:=e.v) (ky ad).1 au;rw [aH,dN];by_cases bb:ops[i].dst=some t
   . rw [if_pos bb];exact .inl ⟨i,_,e,by omega,cv,bb,by rw [j1];exact aa,rfl⟩
   . rw [if_neg bb,<-K3];rcases Cert.MM C p (by omega) t au with ⟨k,o,c9,ao,ax,aL,bY,ee⟩ | ⟨ao,ax⟩
     . exact .inl ⟨k,o,c9,by omega,ax,aL,bY,ee⟩
     . refine .inr ⟨fun k o aD aX=>?_,ax⟩;by_cases gP:k=i
       . subst gP;rw [cv] at aX;cases aX;exact bb
       . refine ao k o ?_ aX;have jY:=(Array.getElem?_eq_some_iff.1 aX).1;have:posOf aE k≠p:=fun e=>gP (C.w3 jY aT (by rw [e,j1]));omega
theorem Cert.Jt (C:Cert P ar ops calls es bA a8 cZ aB eu order aE N M lit):∀p,p<=N->T.get .bad eV (eh es cZ p)=T.get .bad eV bA
 | 0,_=>by rw [C.bA]
 | p+1,aq=>by
   obtain ⟨i,aT,j1⟩:=C.la p (by have:=C.Ce;omega);have cv:ops[i]? =some ops[i]:=Array.getElem?_eq_getElem aT;obtain ⟨e,aa,ad,aH⟩:=C.step i ops[i] cv (by omega);rw [j1] at aa ad aH;have K3:eh es cZ p=e.r:=by simp [eh,aa]
   have bb:=(ky ad).1;rw [aH,<-Cert.Jt C p (by omega),K3];cases aeQ:ops[i].dst with
   | none=>rfl
   | some d=>
     rw [aeQ] at bb;simp only [eW,Bool.and_eq_true,Nat.ble_eq] at bb;simp only [fK];rw [T.h5,if_neg (w1 bb.2)]
def nameAt (es:List eS) (aB:ah) (aE:List Nat) (k:Nat):aO:=aj (cg es aB (posOf aE k)).next
def AL (es:List eS) (aB:ah) (aE:List Nat) (k:Nat):b9:=(cg es aB (posOf aE k+1)).get (nameAt es aB aE k)
def Made (es:List eS) (aB:ah) (aE:List Nat) (k:Nat):Prop:=(cg es aB (posOf aE k+1)).next≠(cg es aB (posOf aE k)).next
def kb (ops:Array Oper) (es:List eS) (aB:ah) (aE:List Nat) (listed:Array Bool) (s k:Nat):Prop:=
 ∃o,ops[k]? =some o/\(gR o=true/\Made es aB aE k)/\¬listed.getD k false=true/\posOf aE k<s
structure Holds (ay F:Fr) (es:List eS) (aB:ah) (aE:List Nat) (D:Nat->Prop):Prop where
 w:F.w=ay.w
 bP:∀b,(∀k,D k->nameAt es aB aE k≠b)->F.d_ b=ay.d_ b
 new:∀k,D k->F.d_ (nameAt es aB aE k)=some (AL es aB aE k)/\ay.d_ (nameAt es aB aE k)=none
 inj:∀k bo,D k->D bo->nameAt es aB aE k=nameAt es aB aE bo->k=bo
theorem Holds.congr {ay F:Fr} {D N1:Nat->Prop} (H:Holds ay F es aB aE D) (h:∀k,N1 k↔D k):Holds ay F es aB aE N1:=
 ⟨H.w,fun b ae=>H.bP b fun k aD=>ae k ((h k).2 aD),fun k aD=>H.new k ((h k).1 aD),fun k bo aD gO=>H.inj k bo ((h k).1 aD) ((h bo).1 gO)⟩
theorem Holds.none {ay F:Fr} {D:Nat->Prop} (H:Holds ay F es aB aE D) (h:∀k,¬D k):F=ay:=by have:F.d_=ay.d_:=funext fun b=>H.bP b fun k aD=>absurd aD (h k);cases F;cases ay;have hw:=H.w;simp only at this hw;rw [this,hw]
theorem Cert.advance (C:Cert P ar ops calls es bA a8 cZ aB eu order aE N M lit) {ay:Fr} {listed:Array Bool} {E:Env} {w:World}:∀(d q:Nat),q+d=N->(∀k o,ops[k]? =some o->gR o=true->q<=posOf aE k->¬listed.getD k false=true)->
 ∀F,Holds ay F es aB aE (kb ops es aB aE listed q)->bf F E (cg es aB q) w->
 ∃s ev,s ∈ eu/\q<=s/\s<=N/\(∀k o,ops[k]? =some o->ec P o=true->q<=posOf aE k->s<=posOf aE k)/\Holds ay ev es aB aE (kb ops es aB aE listed s)/\bf ev E (cg es aB s) w
 | 0,q,aA,_,F,H,S=>by
   have:q=N:=by omega
   subst this;exact ⟨q,F,C.ends,Nat.le_refl _,Nat.le_refl _,fun k o _ _ h=>h,H,S⟩
 | d+1,q,aA,tY,F,H,S=>by
   obtain ⟨i,aT,j1⟩:=C.la q (by have:=C.Ce;omega);have cv:ops[i]? =some ops[i]:=Array.getElem?_eq_getElem aT;cases ma:ec P ops[i] with
   | true=>exact ⟨q,F,by rw [<-j1];exact C.mem i _ cv ma,Nat.le_refl _,by omega,fun k o _ _ h=>h,H,S⟩
   | false=>
     obtain ⟨e,aa,ad,aH⟩:=C.step i ops[i] cv (by omega);rw [j1] at aa ad;have tU:cg es aB q=e.h:=by simp [cg,aa]
     have only:∀k o,ops[k]? =some o->posOf aE k=q->k=i:=fun k o aD af=>C.w3 (Array.getElem?_eq_some_iff.1 aD).1 aT (by rw [af,j1]);have fin:∀ev,Holds ay ev es aB aE (kb ops es aB aE listed (q+1))->bf ev E (cg es aB (q+1)) w->
      ∃s ev,s ∈ eu/\q<=s/\s<=N/\(∀k o,ops[k]? =some o->ec P o=true->q<=posOf aE k->s<=posOf aE k)/\Holds ay ev es aB aE (kb ops es aB aE listed s)/\bf ev E (cg es aB s) w:=by
      intro ev ku gd;obtain ⟨s,u7,g1,g2,g3,g4,g5,g6⟩:=Cert.advance C d (q+1) (by omega) (fun k o aa ad aH=>tY k o aa ad (by omega)) ev ku gd;refine ⟨s,u7,g1,by omega,g3,fun k o aD aC af=>g4 k o aD aC ?_,g5,g6⟩;by_cases Fe:posOf aE k=q
      . have:=only k o aD Fe;subst this;rw [cv] at aD;cases aD;rw [ma] at aC;cases aC
      . omega
     have pass:cg es aB (q+1)=e.h->(gR ops[i]=true->¬Made es aB aE i)->∃s ev,s ∈ eu/\q<=s/\s<=N/\(∀k o,ops[k]? =some o->ec P o=true->q<=posOf aE k->s<=posOf aE k)/\Holds ay ev es aB aE (kb ops es aB aE listed s)/\bf ev E (cg es aB s) w:=by
      intro yX mU;rw [<-tU] at yX;refine fin F (H.congr fun k=>⟨?_,?_⟩) (by rw [yX];exact S)
      . rintro ⟨o,ao,ax,aL,bY⟩;refine ⟨o,ao,ax,aL,?_⟩;have:posOf aE k≠q:=fun e=>by
         have:=only k o ao e;subst this;rw [cv] at ao;cases ao;exact mU ax.1 ax.2
        omega
      . rintro ⟨o,ao,ax,aL,bY⟩;exact ⟨o,ao,ax,aL,by omega⟩
     cases aV:gR ops[i] with
     | true=>
      rcases Q4 aV ad with ⟨c',bK,bT⟩ | ⟨bK,_⟩
      ·
       have aM:=S.hold c';have aQ:nameAt es aB aE i=aj (cg es aB q).next:=by unfold nameAt;rw [j1]
       have ae:AL es aB aE i=c':=by unfold AL;rw [aQ,j1,bK,tU,ah.iL,if_pos rfl]
       rw [tU,<-bK] at aM;have tW:Made es aB aE i:=by unfold Made;rw [j1,bK,tU];exact Nat.succ_ne_self _
       have q3:¬listed.getD i false=true:=tY i _ cv aV (by omega);have Jg:∀k,kb ops es aB aE listed (q+1) k->k=i\/kb ops es aB aE listed q k:=by
        rintro k ⟨o,ao,ax,aL,bY⟩;by_cases Fe:posOf aE k=q
        . exact .inl (only k o ao Fe)
        . exact .inr ⟨o,ao,ax,aL,by omega⟩
       have fresh:∀b wH,F.d_ b=some wH->b≠nameAt es aB aE i:=by intro b wH qU heq;obtain ⟨_,_,j,BU,wG⟩:=S.qf b wH qU;rw [heq,aQ] at wG;rw [tU] at BU wG;have:=ed wG;omega
       have Ts:∀b,b≠nameAt es aB aE i->(F.hold (aj e.h.next) c').d_ b=F.d_ b:=by intro b Sj;rw [aQ,tU] at Sj;simp only [Fr.hold,if_neg Sj]
       have Z1:(F.hold (aj e.h.next) c').d_ (nameAt es aB aE i)=some c':=by rw [aQ,tU];simp only [Fr.hold,if_true]
       have ne:∀k,kb ops es aB aE listed q k->nameAt es aB aE k≠nameAt es aB aE i:=fun k aD=>fresh _ _ (H.new k aD).1;refine fin (F.hold (aj e.h.next) c') ⟨H.w,fun b qU=>?_,fun k aD=>?_,fun k bo aD gO he=>?_⟩ aM
       . have vU:b≠nameAt es aB aE i:=fun e=>qU i ⟨_,cv,⟨aV,tW⟩,q3,by omega⟩ e.symm;rw [Ts b vU];exact H.bP b fun k aD=>qU k (by obtain ⟨o,ao,ax,aL,bY⟩:=aD;exact ⟨o,ao,ax,aL,by omega⟩)
       . rcases Jg k aD with rfl | aD
         . refine ⟨by rw [Z1,ae],?_⟩;cases af:ay.d_ (nameAt es aB aE k) with
           | none=>rfl
           | some wH=>
             exfalso;have:=H.bP (nameAt es aB aE k) fun bo gO=>ne bo gO;rw [af] at this;exact fresh _ _ this rfl
         . rw [Ts _ (ne k aD)];exact H.new k aD
       . rcases Jg k aD with rfl | aD<;>rcases Jg bo gO with rfl | gO
         . rfl
         . exact absurd he.symm (ne bo gO)
         . exact absurd he (ne k aD)
         . exact H.inj k bo aD gO he
      . refine pass bK fun _ hm=>hm ?_;rw [j1,bK,tU]
     | false=>
       have cR:e0 P ops[i].op=false:=by unfold ec at ma;rw [aV] at ma;simpa using ma
       exact pass (vA cR ad).1 fun h=>by rw [aV] at h;cases h
structure qq (P:Program) (ay:Fr) (ar:Nat) (ops:Array Oper) (es:List eS) (bA:bB) (aB:ah) (eu aE:List Nat) (gJ:Env) (N:Nat) (D:List Deferred) (listed:Array Bool) (a:Act) (w:World):Prop where
 sH:listed.size=ops.size
 size:a.tmps.size=ar
 defers:a.defers=D
 tz:∀k,listed.getD k false=true->posOf aE k<N
 down:qt ops fun k=>listed.getD k false=true
 main:∃E s F,gJ.le E/\s ∈ eu/\s<=N/\(∀k o,ops[k]? =some o->ec P o=true->(listed.getD k false=true↔posOf aE k<s))/\
  (∀k o,ops[k]? =some o->gR o=true->listed.getD k false=true->posOf aE k<s)/\Holds ay F es aB aE (kb ops es aB aE listed s)/\bf F E (cg es aB s) w/\
  ∀t,t<=top->(∃k o e,listed.getD k false=true/\ops[k]? =some o/\o.dst=some t/\es[posOf aE k]? =some e/\Rel E e.v (a.tmps.getD t undef))\/
   ((∀k o,listed.getD k false=true->ops[k]? =some o->o.dst≠some t)/\Rel E (T.get .bad (aj t) bA) (a.tmps.getD t undef))
theorem tK {l:Array Bool} {i:Nat}:l.getD i false=true↔l[i]? =some true:=by
 rw [Array.getD_eq_getD_getElem?];cases l[i]? with
 | none=>simp
 | some b=>cases b<;>simp
theorem fO {l:Array Bool} {i k:Nat} (aq:i<l.size):(l.setIfInBounds i true).getD k false=true↔(k=i\/l.getD k false=true):=by
 rw [tK,tK,Array.getElem?_setIfInBounds];by_cases h:i=k
 . subst h;simp [aq]
 . have:¬k=i:=fun e=>h e.symm;simp [h,this]
theorem Ep {r:bB} {t:Nat} (au:t<=top):∀{l:List Oper},T.get .bad (aj t) (oM r l)=.bad\/(T.get .bad (aj t) (oM r l)=T.get .bad (aj t) r/\∀o ∈ l,o.dst≠some t)
 | []=>.inr ⟨rfl,fun o aX=>by simp at aX⟩
 | o::os=>by
   simp only [oM];cases bb:o.dst with
   | none=>
     simp only;rcases Ep (r:=r) au (l:=os) with h | ⟨aa,ad⟩
     . exact .inl h
     . exact .inr ⟨aa,fun cb hD=>by
        rcases List.mem_cons.1 hD with rfl | hD
        . rw [bb];simp
        . exact ad cb hD⟩
   | some d=>
     simp only;cases ae:Nat.ble d top with
     | true=>
       simp only [cond_true];rw [T.h5];by_cases v8:d=t
       . subst v8;rw [if_pos rfl];exact .inl rfl
       . rw [if_neg (fun e=>v8 (ed e))];rcases Ep (r:=r) au (l:=os) with h | ⟨aa,ad⟩
         . exact .inl h
         . exact .inr ⟨aa,fun cb hD=>by
            rcases List.mem_cons.1 hD with rfl | hD
            . rw [bb];simpa using v8
            . exact ad cb hD⟩
     | false=>
       simp only [cond_false];have v8:d≠t:=fun e=>by subst e;rw [<-Nat.ble_eq] at au;rw [au] at ae;cases ae
       rcases Ep (r:=r) au (l:=os) with h | ⟨aa,ad⟩
       . exact .inl h
       . exact .inr ⟨aa,fun cb hD=>by
          rcases List.mem_cons.1 hD with rfl | hD
          . rw [bb];simpa using v8
          . exact ad cb hD⟩
theorem Eo {r:bB}:∀{l:List Oper},T.get .bad eV (oM r l)=T.get .bad eV r
 | []=>rfl
 | o::os=>by
   simp only [oM];cases bb:o.dst with
   | none=>exact Eo
   | some d=>
     simp only;cases ae:Nat.ble d top with
     | true=>
       simp only [cond_true];rw [T.h5,if_neg (w1 (Nat.le_of_ble_eq_true ae))];exact Eo
     | false=>exact Eo
theorem Q_ {rd:Option Nat} {D:List Deferred} {ay:Fr} (bH:eF P) (cU:∀i,gW P (calls i)) (dB:∀i,hb P (calls i)) (C:Cert P ar ops calls es bA a8 cZ aB eu order aE N M lit) {gJ:Env} {listed:Array Bool} {a:Act} {w:World} (I:qq P ay ar ops es bA aB eu aE gJ N D listed a w)
 {i:Nat} (aq:i ∈ Region.ready .any ops listed) (ae':posOf aE i<M) (we:lit=true->∀o k ok,ops[i]? =some o->k7 o=true->ops[k]? =some ok->k7 ok=true->posOf aE k<posOf aE i->listed.getD k false=true) {Q:Exit->Act->World->Prop} {K:Act->World->Prop} (dK:∀bs w',qq P ay ar ops es bA aB eu aE gJ N D (listed.setIfInBounds i true) bs w'->K bs w')
 (cO:∀aw bs w' x v ab,gJ.le aw->N<ops.size->ops.size<=M->(∃i0 iT,ops[i0]? =some iT/\posOf aE i0=N/\(cB P ar ops iT).run (calls i0) cZ aB=.cM v ab)->RegRel0 aw ar (oM bA ops.toList) bs->bs.defers=D->Rel aw v x->bf ay aw ab w'->Q (.panic (qd x)) bs w'):wpOpIn (ct rd) 0 P ops Q i K a w:=by
 rw [mem_ready] at aq;obtain ⟨E,s,F,eB,aM,Fk,mb,eb,ki,q6,wu⟩:=I.main;obtain ⟨tY,o,cv,v'⟩:=aq;have fl:i<ops.size:=(Array.getElem?_eq_some_iff.1 cv).1;have tZ:¬listed.getD i false=true:=by rw [tK];intro h;rw [Array.getD_eq_getD_getElem?,h] at tY;simp at tY
 have SG:=B7 I.down ops.toList [] (fun j=>by simp) (fun k m j aD=>by simp at aD);have yy:qt ops fun k=>listed.getD k false=true\/k=i:=by
  intro k ok e aD bF he ae;rcases aD with aD | rfl
  . exact .inl (I.down k ok e aD bF he ae)
  . rw [cv] at bF;cases bF;exact .inl (v' e (Array.mem_toList_iff.1 he) (by rw [x7];exact ae))
 have afq:=B7 yy ops.toList [] (fun j=>by simp) (fun k m j aD=>by simp at aD);obtain ⟨cP,me,iu,Fc⟩:=C.kC i o cv;have Fc:=Fc ae';have J1:=C.F8;have Bd:∀k,k≠i->fT cP k=true->listed.getD k false=true:=by
  intro k aD ae;rcases afq i cP k me ae (.inr rfl) with h | h
  . exact h
  . exact absurd h aD
 have jd:=(C.ia i fl).1;have afK:posOf aE i<=N:=by
  rcases Nat.lt_or_ge N (posOf aE i) with ae6 | hle
  . exfalso;have EO:ops.size<=M:=by
     rcases Nat.lt_or_ge M ops.size with h | h
     . have:=(C.tail h).1;omega
     . exact h
    obtain ⟨i0,iT,m0,b6,z2,z3,z4,z5,_⟩:=C.stop (by omega) EO;have ae:=z5 i o cP cv ae6 me;have aa:=Bd i0 (fun e=>by subst e;omega) ae;have:=I.tz i0 aa;omega
  . exact hle
 have uniq:∀(k bo:Nat) (ok iz:Oper) (t:Nat),ops[k]? =some ok->ops[bo]? =some iz->posOf aE k<M->posOf aE bo<M->ok.dst=some t->iz.dst=some t->k=bo:=by
  intro k bo ok iz t aa ad cn ch aH bt;obtain ⟨mk,_,_,af⟩:=C.kC k ok aa;obtain ⟨mk',_,hF,_⟩:=af cn bo iz ad ch;unfold pc at hF;rw [h3] at hF;by_cases kj:k=bo
  . exact kj
  . rw [if_neg kj,bt,aH] at hF;simp at hF
 have V':jN (b2 ops o)=true->∀t ∈ b2 ops o,Rel E (T.get .bad (aj t) (eh es cZ (posOf aE i))) (a.tmps.getD t undef):=by
  intro S5 t au;have y2:t<=top:=by have:=List.all_eq_true.1 S5 t au;exact Nat.le_of_ble_eq_true this
  have Va:∀(k:Nat) (ok:Oper),k≠i->posOf aE k<M->ops[k]? =some ok->ok.dst=some t->∃mk,(eI [] ops.toList)[k]? =some mk/\(posOf aE k<posOf aE i->fT cP k=true)/\(¬posOf aE k<posOf aE i->fT mk i=true):=by
   intro k ok aD Kx bF bb;obtain ⟨mk,ao,ax,_⟩:=Fc k ok bF Kx;refine ⟨mk,ao,?_⟩;unfold pc at ax;rw [h3,if_neg (fun e=>aD e.symm),bb] at ax;simp only [Bool.and_eq_true] at ax;have aL:=ax.1;rw [show (b2 ops o).contains t=true from by simpa using au] at aL;simp only [cond_true] at aL;refine ⟨fun aT=>?_,fun jW=>?_⟩
   . rw [show Nat.blt (posOf aE k) (posOf aE i)=true from by rw [Nat.blt_eq];exact aT] at aL;exact aL
   . rw [show Nat.blt (posOf aE k) (posOf aE i)=false from by rw [<-Bool.not_eq_true,Nat.blt_eq];exact jW] at aL;exact aL
  rcases C.MM (posOf aE i) afK t y2 with ⟨k,ok,Ej,ao,ax,aL,bY,ee⟩ | ⟨ao,ax⟩
  . obtain ⟨mk,_,dk,_⟩:=Va k ok (fun e=>by subst e;omega) (by omega) ax aL;have wj:=Bd k (fun e=>by subst e;omega) (dk ao);rcases wu t y2 with ⟨bo,iz,Jz,b0,b1,cS,iU,ni⟩ | ⟨b0,_⟩
    . have:=uniq k bo ok iz t ax b1 (by omega) (by have:=I.tz bo b0;omega) aL cS;subst this;rw [bY] at iU;cases iU;rw [ee];exact ni
    . exact absurd aL (b0 k ok wj ax)
  . rcases wu t y2 with ⟨bo,iz,Jz,b0,b1,cS,iU,ni⟩ | ⟨_,b1⟩
    . have gP:bo≠i:=fun e=>tZ (e ▸ b0);obtain ⟨mk,m1,_,dH⟩:=Va bo iz gP (by have:=I.tz bo b0;omega) b1 cS;by_cases aT:posOf aE bo<posOf aE i
      . exact absurd cS (ao bo iz aT b1)
      . exact absurd (SG bo mk i m1 (dH aT) b0) tZ
    . rw [ax];exact b1
 have level:e0 P o.op=true->s<=posOf aE i->s=posOf aE i/\gR o=false:=by
  intro lB hle;rcases C.WX s aM with (h | ⟨h,EN⟩) | ⟨k,ok,bK,bT,en⟩
  . omega
  . omega
  . have SM:¬listed.getD k false=true:=fun h=>by have:=(mb k ok bK bT).1 h;omega
    have jY:=(Array.getElem?_eq_some_iff.1 bK).1;by_cases gP:k=i
    . subst gP;rw [cv] at bK;cases bK;refine ⟨en,?_⟩;unfold ec at bT;simpa [lB] using bT
    . have aT:posOf aE k<posOf aE i:=by
       have:posOf aE k≠posOf aE i:=fun e=>gP (C.w3 jY fl e);omega
      obtain ⟨mk,_,_,aL⟩:=Fc k ok bK (by omega);rcases aL lB bT aT with h | ⟨g1,g2,g3⟩
      . exact absurd (Bd k gP h) SM
      . exact absurd (we g1 o k ok cv g2 bK g3 aT) SM
 rcases Nat.lt_or_ge (posOf aE i) N with KF | ap6
 case inr=>
  have jD:posOf aE i=N:=by omega
  have EO:ops.size<=M:=by
   rcases Nat.lt_or_ge M ops.size with h | h
   . have:=(C.tail h).1;omega
   . exact h
  obtain ⟨i0,iT,m0,b6,z2,z3,z4,z5,XS,v,ab,NI⟩:=C.stop (by omega) EO;have afa:i0=i:=C.w3 (Array.getElem?_eq_some_iff.1 b6).1 fl (by rw [z2,jD]);subst afa;rw [cv] at b6;cases b6;rw [me] at z4;cases z4;obtain ⟨lB,afw⟩:=Ux z3;have yD:ec P o=true:=by unfold ec;rw [lB,afw];rfl
  have K':s<=posOf aE i0:=by
   rcases Nat.lt_or_ge (posOf aE i0) s with h | h
   . exact absurd ((mb i0 o cv yD).2 h) tZ
   . exact h
  have yY:=(level lB K').1;have iN:F=ay:=ki.none fun k aD=>by
   obtain ⟨ok,ao,ax,aL,bY⟩:=aD;have gP:k≠i0:=fun e=>by subst e;omega
   exact aL (Bd k gP (XS k ok ao ax.1 (by omega)))
  subst iN;have de:es[N]? =none:=List.getElem?_eq_none (by rw [C.len];exact Nat.le_refl _);have kG:=V' (Q2 NI).2;rw [jD] at kG;simp only [eh,de] at kG;rw [yY,jD] at q6;simp only [cg,de] at q6;refine acy bH (cU i0) (dB i0) cv NI z3 I.size kG q6 fun aw x w' ao ax aL=>cO aw a w' x v ab (eB.trans ao) (by omega) EO ⟨i0,o,cv,jD,NI⟩ ⟨I.size,fun t au=>?_⟩ I.defers ax aL;rcases Ep (r:=bA) au (l:=ops.toList) with h | ⟨aa,ad⟩
  . rw [h];simp [Rel]
  . rw [aa];rcases wu t au with ⟨k,ok,Ej,b0,b1,cS,iU,ni⟩ | ⟨b0,b1⟩
    . exact absurd cS (ad ok (by rw [<-Array.getElem?_toList] at b1;exact List.mem_of_getElem? b1))
    . exact Rel.mono ao _ _ b1
 obtain ⟨e,oR,cV,aqg⟩:=C.step i o cv KF;have gm:=ky cV;have eH:eh es cZ (posOf aE i)=e.r:=by simp [eh,oR]
 have jX:cg es aB (posOf aE i)=e.h:=by simp [cg,oR]
 have reads:=V' gm.2;rw [eH] at reads;have gp:i<listed.size:=by rw [I.sH];exact fl
 have after:∀(e1:Nat) (ev:Fr) (aw:Env) (x:Value) (w':World),e1 ∈ eu->e1<=N->(∀k ok,ops[k]? =some ok->ec P ok=true->((k=i\/listed.getD k false=true)↔posOf aE k<e1))->
  (∀k ok,ops[k]? =some ok->gR ok=true->(k=i\/listed.getD k false=true)->posOf aE k<e1)->
  Holds ay ev es aB aE (kb ops es aB aE (listed.setIfInBounds i true) e1)->E.le aw->Rel aw e.v x->bf ev aw (cg es aB e1) w'->
  qq P ay ar ops es bA aB eu aE gJ N D (listed.setIfInBounds i true) (a.put o.dst x) w':=by
  intro e1 ev aw x w' hp af6 fP aes ae7 hle ai af4;refine ⟨by simp [I.sH],by cases h:o.dst<;>simp [Act.put,I.size],by cases h:o.dst<;>simp [Act.put,I.defers],fun k aD=>by
   rcases (fO gp).1 aD with rfl | aD
   . exact KF
   . exact I.tz k aD,?_,aw,e1,ev,eB.trans hle,hp,af6,fun k ok aa ad=>by rw [fO gp];exact fP k ok aa ad,
   fun k ok aa ad aH=>aes k ok aa ad ((fO gp).1 aH),ae7,af4,fun t au=>?_⟩
  . intro k ok c9 aD bF eG ae;rw [fO gp] at aD ⊢;rcases yy k ok c9 aD.symm bF eG ae with h | h
    . exact .inr h
    . exact .inl h
  . by_cases bb:o.dst=some t
    . refine .inl ⟨i,o,e,by rw [fO gp];exact .inl rfl,cv,bb,oR,?_⟩;have aT:t<a.tmps.size:=by
       have:=gm.1;rw [bb] at this;simp only [eW,Bool.and_eq_true,Nat.blt_eq] at this;rw [I.size];exact this.1
      rw [bb];simp only [Act.put];rw [Array.getD_eq_getD_getElem?,Array.getElem?_setIfInBounds,if_pos rfl,if_pos aT];exact ai
    . have dN:(a.put o.dst x).tmps.getD t undef=a.tmps.getD t undef:=by
       cases afD:o.dst with
       | none=>rfl
       | some d=>
         simp only [Act.put];rw [Array.getD_eq_getD_getElem?,Array.getD_eq_getD_getElem?,Array.getElem?_setIfInBounds,if_neg (fun e=>bb (by rw [afD,e]))]
      rw [dN];rcases wu t au with ⟨k,ok,Ej,b0,b1,cS,iU,ni⟩ | ⟨b0,b1⟩
      . exact .inl ⟨k,ok,Ej,by rw [fO gp];exact .inr b0,b1,cS,iU,Rel.mono hle _ _ ni⟩
      . refine .inr ⟨fun k ok aD bF=>?_,Rel.mono hle _ _ b1⟩;rw [fO gp] at aD;rcases aD with rfl | aD
        . rw [cv] at bF;cases bF;exact bb
        . exact b0 k ok aD bF
 have Ki:¬(gR o=true/\Made es aB aE i)->∀e1 k,kb ops es aB aE (listed.setIfInBounds i true) e1 k↔kb ops es aB aE listed e1 k:=by
  intro aV e1 k;constructor
  . rintro ⟨ok,ao,ax,aL,bY⟩;exact ⟨ok,ao,ax,fun h=>aL ((fO gp).2 (.inr h)),bY⟩
  . rintro ⟨ok,ao,ax,aL,bY⟩;refine ⟨ok,ao,ax,fun h=>?_,bY⟩;rcases (fO gp).1 h with rfl | h
    . rw [cv] at ao;cases ao;exact aV ax
    . exact aL h
 cases lB:e0 P o.op with
 | true=>
   cases aV:gR o with
   | true=>
     have aT:posOf aE i<s:=by
      rcases Nat.lt_or_ge (posOf aE i) s with h | h
      . exact h
      . have:=(level lB h).2;rw [aV] at this;cases this
     by_cases hm:Made es aB aE i
     case neg=>
      have K7:(cB P ar ops o).run (calls i) e.r (cg es aB s)=.val e.v (cg es aB s):=by
       rcases Q4 aV cV with ⟨c',bK,_⟩ | ⟨_,bK⟩
       . exact absurd (show Made es aB aE i from by unfold Made;rw [bK,jX];exact Nat.succ_ne_self _) hm
       . exact bK _
      refine qK bH (cU i) (dB i) cv K7 I.size reads q6 fun aw x w' ao ax aL=>dK _ _ (after s F aw x w' aM Fk (fun k ok bF jA=>?_) (fun k ok bF pW aD=>?_) (ki.congr fun k=>Ki (fun h=>hm h.2) s k) ao ax aL)
      . constructor
        . rintro (rfl | h)
          . rw [cv] at bF;cases bF;unfold ec at jA;rw [aV] at jA;simp at jA
          . exact (mb k ok bF jA).1 h
        . intro h;exact .inr ((mb k ok bF jA).2 h)
      . rcases aD with rfl | aD
        . exact aT
        . exact eb k ok bF pW aD
     have k2:kb ops es aB aE listed s i:=⟨o,cv,⟨aV,hm⟩,tZ,aT⟩;have KJ:(cg es aB (posOf aE i+1)).next≠e.h.next:=by rw [<-jX];exact hm
     have mU:nameAt es aB aE i=aj e.h.next:=by unfold nameAt;rw [jX]
     have mg:=(ki.new i k2).1;have y9:=(ki.new i k2).2;have kg:AL es aB aE i=(cg es aB (posOf aE i+1)).get (aj e.h.next):=by unfold AL;rw [mU]
     rw [mU,kg] at mg;refine acw cv aV cV I.size reads q6 KJ mg fun aw x w' ao ax aL=>dK _ _ (after s (F.free (aj e.h.next)) aw x w' aM Fk (fun k ok bF jA=>?_) (fun k ok bF pW aD=>?_) ?_ ao ax aL)
     . constructor
       . rintro (rfl | h)
         . rw [cv] at bF;cases bF;unfold ec at jA;rw [aV] at jA;simp at jA
         . exact (mb k ok bF jA).1 h
       . intro h;exact .inr ((mb k ok bF jA).2 h)
     . rcases aD with rfl | aD
       . exact aT
       . exact eb k ok bF pW aD
     . have sub:∀k,kb ops es aB aE (listed.setIfInBounds i true) s k->kb ops es aB aE listed s k/\k≠i:=by
        rintro k ⟨ok,ao,ax,aL,bY⟩;refine ⟨⟨ok,ao,ax,fun h=>aL ((fO gp).2 (.inr h)),bY⟩,fun e=>aL ((fO gp).2 (.inl e))⟩
       refine ⟨ki.w,fun b ae=>?_,fun k aD=>?_,fun k bo aD gO=>ki.inj k bo (sub k aD).1 (sub bo gO).1⟩
       . by_cases vU:b=aj e.h.next
         . subst vU;simp only [Fr.free,if_true];rw [<-mU,y9]
         . simp only [Fr.free,if_neg vU];refine ki.bP b fun k aD=>?_;by_cases gP:k=i
           . subst gP;rw [mU];exact fun e=>vU e.symm
           . obtain ⟨ok,ao,ax,aL,bY⟩:=aD;refine ae k ⟨ok,ao,ax,fun h=>?_,bY⟩;rcases (fO gp).1 h with h | h
             . exact gP h
             . exact aL h
       . obtain ⟨SB,gP⟩:=sub k aD;have cR:nameAt es aB aE k≠aj e.h.next:=fun e=>gP (ki.inj k i SB k2 (by rw [e,mU]))
         simp only [Fr.free,if_neg cR];exact ki.new k SB
   | false=>
     have yD:ec P o=true:=by unfold ec;rw [lB,aV];rfl
     have K':s<=posOf aE i:=by
      rcases Nat.lt_or_ge (posOf aE i) s with h | h
      . exact absurd ((mb i o cv yD).2 h) tZ
      . exact h
     have yY:=(level lB K').1;rw [<-jX,<-yY] at cV;refine qK bH (cU i) (dB i) cv cV I.size reads q6 fun aw x w' ao ax aL=>?_;rw [yY] at aL;have afo:∀k ok,ops[k]? =some ok->gR ok=true->posOf aE i+1<=posOf aE k->¬(listed.setIfInBounds i true).getD k false=true:=by
      intro k ok bF pW af h;rcases (fO gp).1 h with rfl | h
      . omega
      . have:=eb k ok bF pW h;omega
     have ae9:Holds ay F es aB aE (kb ops es aB aE (listed.setIfInBounds i true) (posOf aE i+1)):=by
      refine ki.congr fun k=>?_;rw [Ki (fun h=>by rw [aV] at h;cases h.1)];constructor
      . rintro ⟨ok,b6,z2,z3,z4⟩;refine ⟨ok,b6,z2,z3,?_⟩;have jY:=(Array.getElem?_eq_some_iff.1 b6).1;have:posOf aE k≠posOf aE i:=fun e=>by
         have:=C.w3 jY fl e;subst this;rw [cv] at b6;cases b6;rw [aV] at z2;cases z2.1
        omega
      . rintro ⟨ok,b6,z2,z3,z4⟩;exact ⟨ok,b6,z2,z3,by omega⟩
     obtain ⟨e1,ev,g1,g2,g3,g4,g5,g6⟩:=C.advance (N - (posOf aE i+1)) (posOf aE i+1) (by omega) afo F ae9 aL;refine dK _ _ (after e1 ev aw x w' g1 g3 (fun k ok bF jA=>?_) (fun k ok bF pW aD=>?_) g5 ao ax g6)
     . have jY:=(Array.getElem?_eq_some_iff.1 bF).1;constructor
       . rintro (rfl | h)
         . omega
         . have:=(mb k ok bF jA).1 h;omega
       . intro h;by_cases gP:k=i
         . exact .inl gP
         . refine .inr ((mb k ok bF jA).2 ?_);rcases Nat.lt_or_ge (posOf aE k) s with bk | bk
           . exact bk
           . have cR:posOf aE k≠posOf aE i:=fun e=>gP (C.w3 jY fl e);have:=g4 k ok bF jA (by omega);omega
     . rcases aD with rfl | aD
       . omega
       . have:=eb k ok bF pW aD;omega
 | false=>
   have aV:gR o=false:=by
    cases h:gR o with
    | false=>rfl
    | true=>rw [agX h] at lB;cases lB
   obtain ⟨c,aC,K7⟩:∃c,(gW P c/\hb P c)/\(cB P ar ops o).run c e.r (cg es aB s)=.val e.v (cg es aB s):=by
    cases eC:looks o.op with
    | false=>exact ⟨_,⟨cU i,dB i⟩,(vA lB cV).2 eC _⟩
    | true=>
      obtain ⟨c9,ao,ax⟩:=C.ask i o cv eC lB KF;rw [oR] at ao;cases ao;obtain ⟨c,ab,aC,aL⟩:=ax s aM (NJ (by rw [LO];simp) fun k mk ok aa ad=>by
       simp only [Nat.zero_add];have bF:ops[k]? =some ok:=by simpa using ad
       cases wg:ec P ok with
       | false=>rfl
       | true=>
         simp only [cond_true];cases oT:Nat.blt (posOf aE k) s with
         | true=>
           rw [Nat.blt_eq] at oT;simp only [cond_true,Bool.not_eq_true'];cases ae:fT mk i with
           | false=>rfl
           | true=>exact absurd (SG k mk i aa ae ((mb k ok bF wg).2 oT)) tZ
         | false=>
           have afl:¬posOf aE k<s:=by rw [<-Nat.blt_eq,oT];simp
           simp only [cond_false,Bool.not_eq_true',me,Option.getD_some];cases ae:fT cP k with
           | false=>rfl
           | true=>
             by_cases gP:k=i
             . subst gP;rw [cv] at bF;cases bF;unfold ec at wg;rw [lB] at wg;cases wg
             . exact absurd ((mb k ok bF wg).1 (Bd k gP ae)) afl)
      rw [(vA lB aL).1] at aL;exact ⟨c,aC,aL⟩
   refine qK bH aC.1 aC.2 cv K7 I.size reads q6 fun aw x w' ao ax aL=>dK _ _ (after s F aw x w' aM Fk (fun k ok bF jA=>?_) (fun k ok bF pW aD=>?_) (ki.congr fun k=>Ki (fun h=>by rw [aV] at h;cases h.1) s k) ao ax aL)
   . constructor
     . rintro (rfl | h)
       . rw [cv] at bF;cases bF;unfold ec at jA;rw [lB] at jA;cases jA
       . exact (mb k ok bF jA).1 h
     . intro h;exact .inr ((mb k ok bF jA).2 h)
   . rcases aD with rfl | aD
     . rw [cv] at bF;cases bF;rw [aV] at pW;cases pW
     . exact eb k ok bF pW aD
theorem Q0 {D:List Deferred} {ay:Fr} (C:Cert P ar ops calls es bA a8 cZ aB eu order aE N M lit) {gJ:Env} (J1:N<=M) {listed:Array Bool} {a:Act} {w:World} (I:qq P ay ar ops es bA aB eu aE gJ N D listed a w)
 (eb:∀k,k<ops.size->posOf aE k<N->listed.getD k false=true):∃aw,gJ.le aw/\RegRel0 aw ar cZ a/\a.defers=D/\bf ay aw aB w:=by
 obtain ⟨E,s,F,eB,aM,Fk,mb,_,ki,q6,wu⟩:=I.main;have de:es[N]? =none:=List.getElem?_eq_none (by rw [C.len];exact Nat.le_refl _);have qZ:cg es aB N=aB:=by simp [cg,de]
 have S0:eh es cZ N=cZ:=by simp [eh,de]
 have yY:s=N:=by
  rcases C.WX s aM with (h | ⟨h,_⟩) | ⟨k,ok,bK,bT,en⟩
  . have:=C.Ce;omega
  . exact h
  . rcases Nat.lt_or_ge s N with aT | jW
    . have:=(mb k ok bK bT).1 (eb k (Array.getElem?_eq_some_iff.1 bK).1 (by omega));omega
    . omega
 subst yY;have iN:F=ay:=ki.none fun k aD=>by obtain ⟨ok,ao,ax,aL,bY⟩:=aD;exact aL (eb k (Array.getElem?_eq_some_iff.1 ao).1 bY)
 subst iN;rw [qZ] at q6;have EN:∀k,posOf aE k<s->posOf aE k<M:=fun k h=>by omega
 refine ⟨E,eB,⟨I.size,fun t au=>?_⟩,I.defers,q6⟩;have age:∀(k bo:Nat) (ok iz:Oper),ops[k]? =some ok->ops[bo]? =some iz->posOf aE k<s->posOf aE bo<s->ok.dst=some t->iz.dst=some t->k=bo:=by
  intro k bo ok iz aa ad cn ch aH bt;obtain ⟨mk,_,_,af⟩:=C.kC k ok aa;obtain ⟨mk',_,hF,_⟩:=af (EN k cn) bo iz ad (EN bo ch);unfold pc at hF;rw [h3] at hF;by_cases kj:k=bo
  . exact kj
  . rw [if_neg kj,bt,aH] at hF;simp at hF
 rcases C.MM s (Nat.le_refl _) t au with ⟨k,ok,Ej,ao,ax,aL,bY,ee⟩ | ⟨ao,ax⟩
 . rw [S0] at ee;rcases wu t au with ⟨bo,iz,Jz,b0,b1,cS,iU,ni⟩ | ⟨b0,_⟩
   . have:=age k bo ok iz ax b1 ao (I.tz bo b0) aL cS;subst this;rw [bY] at iU;cases iU;rw [ee];exact ni
   . exact absurd aL (b0 k ok (eb k (Array.getElem?_eq_some_iff.1 ax).1 ao) ax)
 . rw [S0] at ax;rcases wu t au with ⟨bo,iz,Jz,b0,b1,cS,iU,ni⟩ | ⟨_,b1⟩
   . exact absurd cS (ao bo iz (I.tz bo b0) b1)
   . rw [ax];exact b1
theorem Q' {rd:Option Nat} {D:List Deferred} {ay:Fr} (bH:eF P) (cU:∀i,gW P (calls i)) (dB:∀i,hb P (calls i)) (C:Cert P ar ops calls es bA a8 cZ aB eu order aE N M false) {gJ:Env} {Q:Exit->Act->World->Prop}
 (cO:N=ops.size->∀aw bs w',gJ.le aw->RegRel0 aw ar cZ bs->bs.defers=D->bf ay aw aB w'->Q .normal bs w')
 (im:∀aw bs w' x v ab,gJ.le aw->N<ops.size->ops.size<=M->(∃i0 iT,ops[i0]? =some iT/\posOf aE i0=N/\(cB P ar ops iT).run (calls i0) cZ aB=.cM v ab)->RegRel0 aw ar (oM bA ops.toList) bs->bs.defers=D->Rel aw v x->bf ay aw ab w'->Q (.panic (qd x)) bs w')
 (cK:M<ops.size->∀(fuel:Nat) (listed:Array Bool) aw bs w',(List.range ops.size).countP (fun i=>!listed.getD i false)<=fuel->listed.size=ops.size->qt ops (fun k=>listed.getD k false=true)->(∀k,k<ops.size->(listed.getD k false=true↔posOf aE k<N))->
   gJ.le aw->RegRel0 aw ar cZ bs->bs.defers=D->bf ay aw aB w'->wpAnyIn (ct rd) 0 P .any ops Q fuel listed bs w'):∀(fuel:Nat) (listed:Array Bool) (a:Act) (w:World),(List.range ops.size).countP (fun i=>!listed.getD i false)<=fuel->
 qq P ay ar ops es bA aB eu aE gJ N D listed a w->wpAnyIn (ct rd) 0 P .any ops Q fuel listed a w:=by
 have done:∀(listed:Array Bool) (a:Act) (w:World),qq P ay ar ops es bA aB eu aE gJ N D listed a w->Region.ready .any ops listed=[]->∀i,i<ops.size->listed.getD i false=true:=by
  intro listed a w I aG i
  induction i using Nat.strongRecOn with
  | _ i bd=>
    intro aq;cases gp:listed.getD i false with
    | true=>rfl
    | false=>
      exfalso;have cv:ops[i]? =some ops[i]:=Array.getElem?_eq_getElem aq;obtain ⟨cP,_,iu,_⟩:=C.kC i _ cv;have:i ∈ Region.ready .any ops listed:=by
       rw [mem_ready];refine ⟨?_,ops[i],cv,fun e he ae=>?_⟩
       . have b':i<listed.size:=by rw [I.sH];exact aq
         rw [Array.getD_eq_getD_getElem?,Array.getElem?_eq_getElem b'] at gp ⊢;exact gp
       . have aa:=List.all_eq_true.1 iu e (Array.mem_toList_iff.2 he);rw [x7] at ae;rw [ae] at aa;simp only [Bool.not_true,Bool.false_or,Nat.blt_eq] at aa;exact bd e.on aa (by omega)
      rw [aG] at this;simp at this
 have J1:=C.F8;have full:∀(listed:Array Bool) (a:Act) (w:World),qq P ay ar ops es bA aB eu aE gJ N D listed a w->(∀k,k<ops.size->posOf aE k<N->listed.getD k false=true)->(N=ops.size\/(M<ops.size/\M=N))->
  ∃aw,gJ.le aw/\RegRel0 aw ar cZ a/\a.defers=D/\bf ay aw aB w:=fun _ _ _ I eb _=>Q0 C J1 I eb
 have finish:∀(listed:Array Bool) (a:Act) (w:World),qq P ay ar ops es bA aB eu aE gJ N D listed a w->Region.ready .any ops listed=[]->Q .normal a w:=by
  intro listed a w I aG;have eb:=done listed a w I aG;have J2:N=ops.size:=by
   rcases Nat.lt_or_ge N ops.size with aT | jW
   . exfalso;obtain ⟨i,Bj,nT⟩:=C.la N aT;have:=I.tz i (eb i Bj);omega
   . exact Nat.le_antisymm C.Ce jW
  obtain ⟨aw,g1,g2,g3,g4⟩:=full listed a w I (fun k aD _=>eb k aD) (.inl J2);exact cO J2 aw a w g1 g2 g3 g4
 intro fuel
 induction fuel with
 | zero=>
   intro listed a w aC I;have eb:∀i,i<ops.size->listed.getD i false=true:=by
    intro i aq;have a8:(List.range ops.size).countP (fun i=>!listed.getD i false)=0:=by omega
    rw [List.countP_eq_zero] at a8;simpa using a8 i (List.mem_range.2 aq)
   have aG:Region.ready .any ops listed=[]:=by
    cases aA:Region.ready .any ops listed with
    | nil=>rfl
    | cons j ag5=>
      exfalso;have a6:j ∈ Region.ready .any ops listed:=by rw [aA];simp
      rw [mem_ready] at a6;obtain ⟨aa,o,ad,_⟩:=a6;have:=eb j (Array.getElem?_eq_some_iff.1 ad).1;rw [tK] at this;rw [Array.getD_eq_getD_getElem?,this] at aa;simp at aa
   exact ⟨aG,finish listed a w I aG⟩
 | succ fuel bd=>
   intro listed a w aC I;by_cases Fm:M<ops.size/\∀k,k<ops.size->posOf aE k<N->listed.getD k false=true
   . obtain ⟨vR,eb⟩:=Fm;obtain ⟨aw,g1,g2,g3,g4⟩:=full listed a w I eb (.inr ⟨vR,(C.tail vR).1⟩);exact cK vR (fuel+1) listed aw a w aC I.sH I.down (fun k aD=>⟨I.tz k,eb k aD⟩) g1 g2 g3 g4
   have BB:∀i,i ∈ Region.ready .any ops listed->posOf aE i<M:=by
    intro i aq;have nT:=aq;rw [mem_ready] at nT;obtain ⟨aa,o,ad,v'⟩:=nT;have fl:i<ops.size:=(Array.getElem?_eq_some_iff.1 ad).1;rcases Nat.lt_or_ge M ops.size with vR | vR
    . obtain ⟨EN,yZ⟩:=C.tail vR;rcases Nat.lt_or_ge (posOf aE i) N with aT | jW
      . omega
      . exfalso;refine Fm ⟨vR,fun k aD Ky=>?_⟩;obtain ⟨cP,me,_⟩:=C.kC i o ad;have ae:=yZ i o cP ad jW me k aD Ky;have yy:qt ops fun k=>listed.getD k false=true\/k=i:=by
         intro k ok e aD bF he ae;rcases aD with aD | rfl
         . exact .inl (I.down k ok e aD bF he ae)
         . rw [ad] at bF;cases bF;exact .inl (v' e (Array.mem_toList_iff.1 he) (by rw [x7];exact ae))
        rcases B7 yy ops.toList [] (fun j=>by simp) (fun k m j aD=>by simp at aD) i cP k me ae (.inr rfl) with h | h
        . exact h
        . subst h;omega
    . have:=(C.ia i fl).1;omega
   refine ⟨fun aG=>finish listed a w I aG,fun i aq=>?_⟩;refine Q_ bH cU dB C I aq (BB i aq) (fun h=>by cases h) (fun bs w' HM=>bd _ bs w' ?_ HM) im;have nT:=aq;rw [mem_ready] at nT;obtain ⟨aa,o,ad,_⟩:=nT;have fl:i<ops.size:=(Array.getElem?_eq_some_iff.1 ad).1;have gp:i<listed.size:=by rw [I.sH];exact fl
   have tZ:listed.getD i false=false:=by rw [Array.getD_eq_getD_getElem?,Array.getElem?_eq_getElem gp] at aa ⊢;exact aa
   have:=Ea (fun k=>!listed.getD k false) (fun k=>!(listed.setIfInBounds i true).getD k false) (List.range ops.size)
    (fun k _ aD=>by
      simp only [Bool.not_eq_true'] at aD ⊢;cases aA:listed.getD k false with
      | false=>rfl
      | true=>
        have:=(fO (k:=k) gp).2 (.inr aA);rw [aD] at this;cases this)
    ⟨i,List.mem_range.2 fl,by simp [tZ],by have:=(fO (k:=i) gp).2 (.inl rfl);simp [this]⟩
   omega
theorem ah.set_comm (h:ah) {b bI:aO} (cR:b≠bI) (k bo:b9):(h.set b k).set bI bo=(h.set bI bo).set b k:=by unfold ah.set;simp only;rw [T.put_comm _ _ _ _ _ _ (fun e=>cR e.symm)]
theorem M_ {o:Oper} {x:Operand} (h:s0 o=some x):∃t y,o.op=.store t x y/\o.dst=none/\o.guard=none:=by
 unfold s0 at h
 split at h
 case h_2=>cases h
 rename_i t NC y aX
 split at h
 case h_2=>cases h
 rename_i bb
 split at h
 case h_2=>cases h
 rename_i aF;cases h;exact ⟨t,y,aX,bb,aF⟩
theorem ajA {h ab:ah} {b:aO} {off:Nat} {ag:List V} (he:lay h b off ag=some ab):∃k,ab=h.set b k/\∀H:ah,H.get b=h.get b->lay H b off ag=some (H.set b k):=by
 unfold lay at he ⊢;cases aF:h.get b<;>rw [aF] at he<;>simp only [b9.on] at he<;>try (cases he;done)
 obtain ⟨aC,aa⟩:=ey he;cases aa;refine ⟨_,rfl,fun H k2=>?_⟩;rw [k2];simp only [b9.on,aC,cond_true]
theorem Q6 {all:Array Oper} {o:Oper} {x:Operand} {call:dJ} {r:bB} {h ab:ah} {v:V} (ai:s0 o=some x) (he:(cB P ar all o).run call r h=.val v ab):
 ∃b off k,(bQ x).run (dq r (b2 all o))=.ptr b off/\ab=h.set b k/\∀H:ah,H.get b=h.get b->(cB P ar all o).run call r H=.val v (H.set b k):=by
 obtain ⟨t,y,aX,bb,aF⟩:=M_ ai;obtain ⟨aa,ad⟩:=ky he;have key:cB P ar all o=⟨ja none (fi P o) (b2 all o)⟩:=by unfold cB;rw [show (eW ar o.dst&&jN (b2 all o))=true from by rw [aa,ad];rfl,aF];rfl
 rw [key] at he ⊢;simp only [ja] at he ⊢;have vY:∀H,(fi P o).run call (dq r (b2 all o)) H=gG .bad ((sZ P t).run H ((bQ x).run (dq r (b2 all o))) ((bQ y).run (dq r (b2 all o)))):=by intro H;unfold fi;rw [aX]
 rw [vY] at he;cases aM:(sZ P t).run h ((bQ x).run (dq r (b2 all o))) ((bQ y).run (dq r (b2 all o))) with
 | none=>rw [aM] at he;cases he
 | some aH=>
   rw [aM] at he;simp only [gG,a7.val.injEq] at he;obtain ⟨rfl,rfl⟩:=he;unfold sZ at aM;cases au:a' P t with
   | none=>rw [au] at aM;cases aM
   | some aP=>
     rw [au] at aM;simp only [xi] at aM;obtain ⟨b,off,af,bt⟩:=zy aM;obtain ⟨aC,cI⟩:=ey bt;obtain ⟨k,bK,bT⟩:=ajA cI;refine ⟨b,off,k,af,bK,fun H k2=>?_⟩;rw [vY];unfold sZ;rw [au];simp only [xi,af,V.jK,aC,cond_true,bT H k2,gG]
theorem zH {listed:Array Bool} (iu:∀i o,ops[i]? =some o->mq i o=true) (b':listed.size=ops.size) (aG:Region.ready .any ops listed=[]):∀i,i<ops.size->listed.getD i false=true:=by
 intro i
 induction i using Nat.strongRecOn with
 | _ i bd=>
   intro aq;cases gp:listed.getD i false with
   | true=>rfl
   | false=>
     exfalso;have cv:ops[i]? =some ops[i]:=Array.getElem?_eq_getElem aq;have iu:=iu i _ cv;have:i ∈ Region.ready .any ops listed:=by
      rw [mem_ready];refine ⟨?_,ops[i],cv,fun e he ae=>?_⟩
      . have aM:i<listed.size:=by rw [b'];exact aq
        rw [Array.getD_eq_getD_getElem?,Array.getElem?_eq_getElem aM] at gp ⊢;exact gp
      . have aa:=List.all_eq_true.1 iu e (Array.mem_toList_iff.2 he);rw [x7] at ae;rw [ae] at aa;simp only [Bool.not_true,Bool.false_or,Nat.blt_eq] at aa;exact bd e.on aa (by omega)
     rw [aG] at this;simp at this
theorem w_ {listed:Array Bool} {i:Nat} (aps:listed.size=ops.size) (aq:i ∈ Region.ready .any ops listed):i<ops.size/\¬listed.getD i false=true:=by rw [mem_ready] at aq;obtain ⟨aa,o,ad,_⟩:=aq;refine ⟨(Array.getElem?_eq_some_iff.1 ad).1,fun h=>?_⟩;rw [tK] at h;rw [Array.getD_eq_getD_getElem?,h] at aa;simp at aa
theorem Ng {rd:Option Nat} {ay:Fr} (bH:eF P) (cU:gW P call) (dB:hb P call) (iu:∀i o,ops[i]? =some o->mq i o=true) {i:Nat} {o:Oper} (cv:ops[i]? =some o) (bb:o.dst=none) {r:bB} {h ab:ah} {v:V}
 (he:(cB P ar ops o).run call r h=.val v ab) {Q:Exit->Act->World->Prop} {E:Env} {a:Act} {w:World} (k:fs E ar r a) (s:bf ay E h w) (cO:∀aw w',E.le aw->bf ay aw ab w'->Q .normal a w')
 {listed:Array Bool} (b':listed.size=ops.size) (eb:∀j,j<ops.size->(listed.getD j false=true↔j≠i)) (fuel:Nat) (aB:1<=fuel):wpAnyIn (ct rd) 0 P .any ops Q fuel listed a w:=by
 have fl:i<ops.size:=(Array.getElem?_eq_some_iff.1 cv).1;have gp:i<listed.size:=by rw [b'];exact fl
 cases fuel with
 | zero=>omega
 | succ fuel=>
   refine ⟨fun aG=>absurd (zH iu b' aG i fl) (fun h=>((eb i fl).1 h) rfl),fun j a6=>?_⟩;obtain ⟨BU,wG⟩:=w_ b' a6;have afe:j=i:=by
    rcases Nat.decEq j i with cR | he
    . exact absurd ((eb j BU).2 cR) wG
    . exact he
   subst afe;refine qK bH cU dB cv he k.size (fun t au=>k.av t (Nat.le_of_ble_eq_true (List.all_eq_true.1 (ky he).2 t au))) s fun aw x w' ao ax aL=>?_;rw [bb];refine wpAnyIn_done ?_ (cO aw w' ao aL) fuel;cases aG:Region.ready .any ops (listed.setIfInBounds j true) with
   | nil=>rfl
   | cons m ms=>
     exfalso;have hm:m ∈ Region.ready .any ops (listed.setIfInBounds j true):=by rw [aG];simp
     obtain ⟨m1,m2⟩:=w_ (by simp [b']) hm;refine m2 ((fO gp).2 ?_);by_cases SI:m=j
     . exact .inl SI
     . exact .inr ((eb m m1).2 SI)
theorem anF {rd:Option Nat} {ay:Fr} (bH:eF P) (cU:gW P call) (dB:hb P call) (iu:∀i o,ops[i]? =some o->mq i o=true) {i j:Nat} {o p:Oper} (cv:ops[i]? =some o) (nU:ops[j]? =some p) (mO:i≠j) (bb:o.dst=none) (mg:p.dst=none)
 {r:bB} {h aa il ad:ah} {v c1 u ha:V} (he:(cB P ar ops o).run call r h=.val v aa) (af:(cB P ar ops p).run call r aa=.val u ad) (eZ:(cB P ar ops p).run call r h=.val ha il) (eG:(cB P ar ops o).run call r il=.val c1 ad)
 {Q:Exit->Act->World->Prop} {E:Env} {a:Act} {w:World} (k:fs E ar r a) (s:bf ay E h w) (cO:∀aw w',E.le aw->bf ay aw ad w'->Q .normal a w')
 {listed:Array Bool} (b':listed.size=ops.size) (eb:∀m,m<ops.size->(listed.getD m false=true↔(m≠i/\m≠j))) (fuel:Nat) (aB:2<=fuel):wpAnyIn (ct rd) 0 P .any ops Q fuel listed a w:=by
 have fl:i<ops.size:=(Array.getElem?_eq_some_iff.1 cv).1;have E3:j<ops.size:=(Array.getElem?_eq_some_iff.1 nU).1;have kG:∀{q:Oper} {H ku:ah} {z:V},(cB P ar ops q).run call r H=.val z ku->∀t ∈ b2 ops q,Rel E (T.get .bad (aj t) r) (a.tmps.getD t undef):=
  fun he t au=>k.av t (Nat.le_of_ble_eq_true (List.all_eq_true.1 (ky he).2 t au))
 cases fuel with
 | zero=>omega
 | succ fuel=>
   refine ⟨fun aG=>absurd (zH iu b' aG i fl) (fun h=>((eb i fl).1 h).1 rfl),fun m hm=>?_⟩;obtain ⟨m1,m2⟩:=w_ b' hm;have hR:m=i\/m=j:=by
    rcases Nat.decEq m i with cR | he
    . rcases Nat.decEq m j with afy | ef
      . exact absurd ((eb m m1).2 ⟨cR,afy⟩) m2
      . exact .inr ef
    . exact .inl he
   rcases hR with rfl | rfl
   . refine qK bH cU dB cv he k.size (kG he) s fun aw x w' ao ax aL=>?_;rw [bb];have gp:m<listed.size:=by rw [b'];exact fl
     refine Ng bH cU dB iu nU mg af (k.mono ao) aL (fun bL bV b0 b1=>cO bL bV (ao.trans b0) b1) (by simp [b']) (fun z bn=>?_) fuel (by omega);rw [fO gp,eb z bn];constructor
     . rintro (rfl | h)
       . exact mO
       . exact h.2
     . intro h;by_cases BM:z=m
       . exact .inl BM
       . exact .inr ⟨BM,h⟩
   . refine qK bH cU dB nU eZ k.size (kG eZ) s fun aw x w' ao ax aL=>?_;rw [mg];have gp:m<listed.size:=by rw [b'];exact E3
     refine Ng bH cU dB iu cv bb eG (k.mono ao) aL (fun bL bV b0 b1=>cO bL bV (ao.trans b0) b1) (by simp [b']) (fun z bn=>?_) fuel (by omega);rw [fO gp,eb z bn];constructor
     . rintro (rfl | h)
       . exact fun e=>mO e.symm
       . exact h.1
     . intro h;by_cases BM:z=m
       . exact .inl BM
       . exact .inr ⟨h,BM⟩
theorem XJ {rd:Option Nat} {id:Nat} {a:Act} {w:World} {Q:Exit->Act->World->Prop} (hm:P.follows .mixedOrders=true)
 (h:wpAnyIn (ct rd) 0 P .any ops Q ops.size (Array.replicate ops.size false) a {w with drawn:=w.drawn+1}):(Code.region id ops true).wpIn (ct rd) 0 P Q a w:=by
 refine wpIn_region_draw fun t=>?_;rw [hm];exact wpAnyIn_sound _ _ _ _ _ h
theorem Nl {r bu:bB}:∀{rs:List Nat},(∀t ∈ rs,T.get .bad (aj t) bu=T.get .bad (aj t) r)->dq bu rs=dq r rs
 | [],_=>rfl
 | t::cJ,h=>by simp only [dq];rw [h t (by simp),Nl (rs:=cJ) fun u hu=>h u (by simp [hu])]
theorem acu {all:Array Oper} {o:Oper} {call:dJ} {r bu:bB} (h:∀t ∈ b2 all o,T.get .bad (aj t) bu=T.get .bad (aj t) r) (H:ah):(cB P ar all o).run call bu H=(cB P ar all o).run call r H:=by
 unfold cB;cases aC:(eW ar o.dst&&jN (b2 all o)) with
 | false=>rfl
 | true=>
   simp only [cond_true];cases aF:o.guard with
   | none=>simp only [ja,Nl h]
   | some p3=>
     obtain ⟨j,want⟩:=p3;simp only;cases all[j]? with
     | none=>rfl
     | some g=>
       simp only;cases g.dst with
       | none=>rfl
       | some d=>
         simp only;cases (Nat.blt d ar&&Nat.ble d top) with
         | false=>rfl
         | true=>simp only [cond_true,ja,Nl h]
theorem anE {rd:Option Nat} {ay:Fr} (bH:eF P) (cU:gW P call) (dB:hb P call) (iu:∀i o,ops[i]? =some o->mq i o=true) {l i j:Nat} {b o p:Oper} (tV:ops[l]? =some b) (cv:ops[i]? =some o) (nU:ops[j]? =some p)
 (gp:l≠i) (SD:l≠j) (mO:i≠j) (bb:o.dst=none) (mg:p.dst=none) {r bD:bB} {h aa il ad:ah} {z v c1 u ha:V}
 (ae:∀H,(cB P ar ops b).run call r H=.val z H) (sq:bD=(fK b.dst).run r z) (yX:∀t ∈ b2 ops p,T.get .bad (aj t) bD=T.get .bad (aj t) r)
 (he:(cB P ar ops o).run call bD h=.val v aa) (af:(cB P ar ops p).run call bD aa=.val u ad) (eZ:(cB P ar ops p).run call bD h=.val ha il) (eG:(cB P ar ops o).run call bD il=.val c1 ad)
 {Q:Exit->Act->World->Prop} {E:Env} {a:Act} {w:World} (k:fs E ar r a) (s:bf ay E h w) (cO:∀aw bs w',E.le aw->fs aw ar bD bs->bf ay aw ad w'->Q .normal bs w')
 {listed:Array Bool} (b':listed.size=ops.size) (vP:qt ops fun k=>listed.getD k false=true) (agp:∀cP,(eI [] ops.toList)[i]? =some cP->fT cP l=true) (me:∃cP,(eI [] ops.toList)[i]? =some cP)
 (eb:∀m,m<ops.size->(listed.getD m false=true↔(m≠l/\m≠i/\m≠j))) (fuel:Nat) (aB:3<=fuel):wpAnyIn (ct rd) 0 P .any ops Q fuel listed a w:=by
 have E7:l<ops.size:=(Array.getElem?_eq_some_iff.1 tV).1;have fl:i<ops.size:=(Array.getElem?_eq_some_iff.1 cv).1;have E3:j<ops.size:=(Array.getElem?_eq_some_iff.1 nU).1;have kG:∀{E:Env} {a:Act} {q:Oper} {R:bB} {H ku:ah} {z:V},fs E ar R a->(cB P ar ops q).run call R H=.val z ku->∀t ∈ b2 ops q,Rel E (T.get .bad (aj t) R) (a.tmps.getD t undef):=
  fun k he t au=>k.av t (Nat.le_of_ble_eq_true (List.all_eq_true.1 (ky he).2 t au))
 have UP:∀(L:Array Bool),(qt ops fun k=>L.getD k false=true)->¬L.getD l false=true->i ∈ Region.ready .any ops L->False:=by
  intro L aeb tY yP;rw [mem_ready] at yP;obtain ⟨_,cb,hD,v'⟩:=yP;rw [cv] at hD;cases hD;obtain ⟨cP,me⟩:=me;have yy:qt ops fun k=>L.getD k false=true\/k=i:=by
   intro k ok e aD bF he ae;rcases aD with aD | rfl
   . exact .inl (aeb k ok e aD bF he ae)
   . rw [cv] at bF;cases bF;exact .inl (v' e (Array.mem_toList_iff.1 he) (by rw [x7];exact ae))
  rcases B7 yy ops.toList [] (fun j=>by simp) (fun k m j aD=>by simp at aD) i cP l me (agp cP me) (.inr rfl) with h | h
  . exact tY h
  . exact gp h
 have acz:∀m,m ∈ Region.ready .any ops listed->qt ops fun k=>(listed.setIfInBounds m true).getD k false=true:=by
  intro m hm k ok e aD bF he ae;have mc:=hm;rw [mem_ready] at mc;obtain ⟨_,gr,SP,v'⟩:=mc;have afs:m<listed.size:=by rw [b'];exact (Array.getElem?_eq_some_iff.1 SP).1
  rw [fO afs] at aD ⊢;rcases aD with rfl | aD
  . rw [SP] at bF;cases bF;exact .inr (v' e (Array.mem_toList_iff.1 he) (by rw [x7];exact ae))
  . exact .inr (vP k ok e aD bF he ae)
 cases fuel with
 | zero=>omega
 | succ fuel=>
   refine ⟨fun aG=>absurd (zH iu b' aG i fl) (fun h=>((eb i fl).1 h).2.1 rfl),fun m hm=>?_⟩;obtain ⟨m1,m2⟩:=w_ b' hm;have hR:m=l\/m=j:=by
    rcases Nat.decEq m l with cx | aN
    . rcases Nat.decEq m j with e8 | aZ
      . rcases Nat.decEq m i with n3 | bJ
        . exact absurd ((eb m m1).2 ⟨cx,n3,e8⟩) m2
        . subst bJ;exact (UP listed vP (fun h=>((eb l E7).1 h).1 rfl) hm).elim
      . exact .inr aZ
    . exact .inl aN
   rcases hR with rfl | rfl
   . -- p first
     have lC:m<listed.size:=by rw [b'];exact E7
     refine qK bH cU dB tV (ae h) k.size (kG k (ae h)) s fun aw x w' ao ax aL=>?_;have bK:fs aw ar bD (a.put b.dst x):=by rw [sq];exact (k.mono ao).put (ky (ae h)).1 ax
     refine anF bH cU dB iu cv nU mO bb mg he af eZ eG bK aL (fun bL bV b0 b1=>cO bL _ bV (ao.trans b0) (bK.mono b0) b1) (by simp [b']) (fun y a1=>?_) fuel (by omega);rw [fO lC,eb y a1];constructor
     . rintro (rfl | h)
       . exact ⟨gp,SD⟩
       . exact h.2
     . intro h;by_cases BK:y=m
       . exact .inl BK
       . exact .inr ⟨BK,h⟩
   . -- q first
     have lC:m<listed.size:=by rw [b'];exact E3
     have wk:(cB P ar ops p).run call r h=.val ha il:=by rw [<-acu yX];exact eZ
     have aec:=acz m hm;refine qK bH cU dB nU wk k.size (kG k wk) s fun aw x w' ao ax aL=>?_;rw [mg];have wx:(listed.setIfInBounds m true).size=ops.size:=by simp [b']
     cases fuel with
     | zero=>omega
     | succ fuel=>
       refine ⟨fun aG=>absurd (zH iu wx aG i fl) (fun h=>?_),fun y a1=>?_⟩
       . rcases (fO lC).1 h with e | h
         . exact mO e
         . exact ((eb i fl).1 h).2.1 rfl
       obtain ⟨dT,e3⟩:=w_ wx a1;have agz:y=l:=by
        rcases Nat.decEq y l with cx | aN
        . rcases Nat.decEq y i with n3 | bJ
          . exfalso;refine e3 ((fO lC).2 ?_);by_cases BK:y=m
            . exact .inl BK
            . exact .inr ((eb y dT).2 ⟨cx,n3,BK⟩)
          . subst bJ;refine (UP _ aec (fun h=>?_) a1).elim;rcases (fO lC).1 h with e | h
            . exact SD e
            . exact ((eb l E7).1 h).1 rfl
        . exact aN
       subst agz;have bo:=k.mono ao;refine qK bH cU dB tV (ae il) bo.size (kG bo (ae il)) aL fun bL dx bV t1 t2 t3=>?_;have bK:fs bL ar bD (a.put b.dst dx):=by rw [sq];exact (bo.mono t1).put (ky (ae h)).1 t2
       have KG:y < (listed.setIfInBounds m true).size:=by rw [wx];exact E7
       refine Ng bH cU dB iu cv bb eG bK t3 (fun fF iE b0 b1=>cO fF _ iE (ao.trans (t1.trans b0)) (bK.mono b0) b1) (by simp [b']) (fun g aF=>?_) fuel (by omega);rw [fO KG,fO lC,eb g aF];constructor
       . rintro (rfl | rfl | h)
         . exact gp
         . exact fun e=>mO e.symm
         . exact h.2.1
       . intro h;by_cases aN:g=y
         . exact .inl aN
         . by_cases aZ:g=m
           . exact .inr (.inl aZ)
           . exact .inr (.inr ⟨aN,h,aZ⟩)
theorem Js {rd:Option Nat} {ay:Fr} {E:Env} {h:ah} {w:World} {id:Nat} (c6:P.follows .mixedOrders=true) (bH:eF P) (cU:gW P call) (dB:hb P call) {r:bB} {a:Act}
 {Q:Exit->Act->World->Prop} (k:fs E ar r a) (s:bf ay E h w) {es:List eS} {eN:bB} {bk:ah} {order aE eu:List Nat} {N M:Nat} (C:Cert P ar ops (fun _=>call) es r h eN bk eu order aE N M false)
 (cO:N=ops.size->∀aw bs w',E.le aw->fs aw ar eN bs->bf ay aw bk w'->Q .normal bs w')
 (im:∀aw bs w' x v ab,E.le aw->N<ops.size->ops.size<=M->(∃i0 iT,ops[i0]? =some iT/\posOf aE i0=N/\(cB P ar ops iT).run call eN bk=.cM v ab)->fs aw ar (oM r ops.toList) bs->Rel aw v x->bf ay aw ab w'->Q (.panic (qd x)) bs w')
 (cK:M<ops.size->∀(fuel:Nat) (listed:Array Bool) aw bs w',(List.range ops.size).countP (fun i=>!listed.getD i false)<=fuel->listed.size=ops.size->qt ops (fun k=>listed.getD k false=true)->(∀k,k<ops.size->(listed.getD k false=true↔posOf aE k<N))->
   E.le aw->fs aw ar eN bs->bf ay aw bk w'->wpAnyIn (ct rd) 0 P .any ops Q fuel listed bs w'):
 (Code.region id ops true).wpIn (ct rd) 0 P Q a w:=by
 have de:∀k,¬(Array.replicate ops.size false).getD k false=true:=by
  intro k;rw [tK,Array.getElem?_replicate]
  split<;>simp
 have ki:Holds ay ay es bk aE (kb ops es bk aE (Array.replicate ops.size false) 0):=
  ⟨rfl,fun _ _=>rfl,fun k aD=>(by obtain ⟨_,_,_,_,a8⟩:=aD;omega),fun k bo aD=>(by obtain ⟨_,_,_,_,a8⟩:=aD;omega)⟩
 obtain ⟨e1,ev,g1,g2,g3,g4,g5,g6⟩:=C.advance N 0 (by omega) (fun k o _ _ _=>de k) ay ki (E:=E) (w:={w with drawn:=w.drawn}) (by rw [C.a8];exact s.same rfl rfl rfl rfl);have lA:∀(aw:Env) (bs:Act),E.le aw->bs.defers=a.defers->∀(bu:bB),T.get .bad eV bu=T.get .bad eV r->lo aw (T.get .bad eV bu) bs.defers:=fun aw bs he bb bu so=>by rw [so,bb];exact k.defers.mono he
 have EW:T.get .bad eV eN=T.get .bad eV r:=by have:=C.Jt N (Nat.le_refl _);have KQ:es[N]? =none:=List.getElem?_eq_none (by rw [C.len];exact Nat.le_refl _);simpa [eh,KQ] using this
 refine XJ c6 (Q' bH (fun _=>cU) (fun _=>dB) C (gJ:=E) (D:=a.defers)
  (fun aQ aw bs w' ao ax aL bY=>cO aQ aw bs w' ao ⟨ax,lA aw bs ao aL eN EW⟩ bY)
  (fun aw bs w' x v ab ao ax V2 aL bY ee fQ iV=>im aw bs w' x v ab ao ax V2 aL ⟨bY,lA aw bs ao ee _ Eo⟩ fQ iV)
  (fun g0 fuel listed aw bs w' g1 g2 g3 g4 ao ax aL bY=>cK g0 fuel listed aw bs w' g1 g2 g3 g4 ao ⟨ax,lA aw bs ao aL eN EW⟩ bY) ops.size _ a _ ?_ ?_)
 . exact Nat.le_trans List.countP_le_length (by simp)
 . refine ⟨by simp,k.size,rfl,fun bo aD=>absurd aD (de bo),fun bo o e aD=>absurd aD (de bo),E,e1,ev,Env.le.refl E,g1,g3,fun bo o aa ad=>⟨fun h=>absurd h (de bo),fun h=>by have:=g4 bo o aa ad (Nat.zero_le _);omega⟩,
    fun bo o _ _ h=>absurd h (de bo),g5,?_,fun t au=>.inr ⟨fun bo o aD=>absurd aD (de bo),k.av t au⟩⟩
   exact g6.same rfl rfl rfl rfl
theorem Vm {n:Nat} {order aE:List Nat} (gY:lT n order aE=true):order.length=n/\(∀k,k<n->posOf aE k<n/\order[posOf aE k]? =some k)/\∀p,p<n->∃i,i<n/\posOf aE i=p:=by
 unfold lT at gY;simp only [Bool.and_eq_true,Nat.beq_eq] at gY;obtain ⟨kk,mV,sj,sk⟩:=gY;refine ⟨kk,fun k aD=>?_,fun p af=>?_⟩
 . have aF:aE[k]? =some (posOf aE k):=by
    unfold posOf;rw [List.getElem?_eq_getElem (by omega)];rfl
   have:=uA sj aF;rw [Nat.zero_add] at this;exact ⟨by have:=(List.getElem?_eq_some_iff.1 this).1;omega,this⟩
 . have aF:order[p]? =some (order[p]'(by omega)):=List.getElem?_eq_getElem (by omega);have:=uA sk aF;rw [Nat.zero_add] at this;refine ⟨order[p]'(by omega),by have:=(List.getElem?_eq_some_iff.1 this).1;omega,?_⟩;unfold posOf;rw [this];rfl
theorem anC {order aE:List Nat} (aB:CK P ops order aE=true):3<=ops.size/\∀i o,ops[i]? =some o->∃cP,(eI [] ops.toList)[i]? =some cP/\mq i o=true/\
 (posOf aE i<ops.size-3->∀k ok,ops[k]? =some ok->posOf aE k<ops.size-3->∃mk,(eI [] ops.toList)[k]? =some mk/\pc i cP (b2 ops o) o.dst k mk ok (Nat.blt (posOf aE k) (posOf aE i))=true/\(e0 P o.op=true->ec P ok=true->posOf aE k<posOf aE i->fT cP k=true))/\
 (¬posOf aE i<ops.size-3->G' P ops order aE (ops.size-3) i cP o=true):=by
 unfold CK at aB;simp only [Bool.and_eq_true,Nat.ble_eq] at aB;refine ⟨aB.1,fun i o aq=>?_⟩;obtain ⟨cP,aa,ad⟩:=qo aB.2 i o (by simpa using aq);simp only [Nat.zero_add,Bool.and_eq_true] at ad;refine ⟨cP,aa,ad.1,fun aT k ok aD jY=>?_,fun jW=>?_⟩
 . have aH:=ad.2;rw [show Nat.blt (posOf aE i) (ops.size-3)=true from by rw [Nat.blt_eq];exact aT] at aH;simp only [cond_true] at aH;obtain ⟨mk,bK,bT⟩:=qo aH k ok (by simpa using aD);simp only [Nat.zero_add] at bT;rw [show Nat.blt (posOf aE k) (ops.size-3)=true from by rw [Nat.blt_eq];exact jY] at bT;simp only [cond_true,Bool.and_eq_true] at bT;refine ⟨mk,bK,bT.1,fun aN aZ aT=>?_⟩;have en:=bT.2;rw [aN,aZ,Bool.true_and,show Nat.blt (posOf aE k) (posOf aE i)=true from by rw [Nat.blt_eq];exact aT] at en;exact en
 . have aH:=ad.2;rw [show Nat.blt (posOf aE i) (ops.size-3)=false from by rw [<-Bool.not_eq_true,Nat.blt_eq];exact jW] at aH;exact aH
theorem anD {order aE:List Nat} {N i cP p:Nat} {o Gt:Oper} (af:order[N]? =some p) (lE:ops[p]? =some Gt) (h:G' P ops order aE N i cP o=true):
 (∀k,k<ops.size->posOf aE k<N->fT cP k=true)/\(posOf aE i=N->e0 P o.op=false/\looks o.op=false)/\(posOf aE i≠N->∃x,s0 o=some x)/\
 (posOf aE i=N+1->fT cP p=true)/\(posOf aE i=N+2->∀t ∈ b2 ops o,Gt.dst≠some t):=by
 unfold G' at h;rw [af] at h;simp only [Bool.and_eq_true] at h;obtain ⟨⟨aa,ad⟩,aH,bt⟩:=h;refine ⟨fun k aD Ky=>?_,fun e=>?_,fun e=>?_,fun e=>?_,fun e t au=>?_⟩
 . obtain ⟨mk,bK,bT⟩:=qo aa k ops[k] (by simp);simp only [Nat.zero_add] at bT;rw [show Nat.blt (posOf aE k) N=true from by rw [Nat.blt_eq];exact Ky] at bT;exact bT
 . rw [h3,if_pos e] at ad;simpa using ad
 . rw [h3,if_neg e] at ad;exact Option.isSome_iff_exists.1 ad
 . rw [h3,if_pos e] at aH;exact aH
 . rw [h3,if_pos e,lE] at bt;simp only at bt;intro bb;rw [bb] at bt;simp only [Bool.not_eq_true'] at bt;rw [show (b2 ops o).contains t=true from by simpa using au] at bt;cases bt
theorem Kg {es:List eS} {bk:ah} {N p:Nat} (af:p<=N):cg (es.take N) (cg es bk N) p=cg es bk p:=by
 by_cases h:p<N
 . cases he:es[p]? with
   | some e=>simp [cg,h,he]
   | none=>
     have aQ:es[N]? =none:=List.getElem?_eq_none (by have:=List.getElem?_eq_none_iff.1 he;omega);simp [cg,h,he,aQ]
 . have:p=N:=by omega
   subst this;simp [cg,List.getElem?_take]
theorem Wc {es:List eS} {eN:bB} {N p:Nat} (af:p<=N):eh (es.take N) (eh es eN N) p=eh es eN p:=by
 by_cases h:p<N
 . cases he:es[p]? with
   | some e=>simp [eh,h,he]
   | none=>
     have aQ:es[N]? =none:=List.getElem?_eq_none (by have:=List.getElem?_eq_none_iff.1 he;omega);simp [eh,h,he,aQ]
 . have:p=N:=by omega
   subst this;simp [eh,List.getElem?_take]
theorem ZH {order:List Nat} {es:List eS} {N i j:Nat} {o p:Oper} {e f:eS} {x y:Operand} (aV:DF ops order es N=true) (aq:order[N]? =some i) (a6:order[N+1]? =some j) (cv:ops[i]? =some o) (nU:ops[j]? =some p)
 (he:es[N]? =some e) (aB:es[N+1]? =some f) (ai:s0 o=some x) (a1:s0 p=some y) {b c:aO} {off oh:Nat} (ae:(bQ x).run (dq e.r (b2 ops o))=.ptr b off) (aC:(bQ y).run (dq f.r (b2 ops p))=.ptr c oh):b≠c:=by
 unfold DF Na at aV;simp only [aq,a6,cv,nU,he,aB,ai,a1,ae,aC] at aV;intro h;subst h;rw [aO.yf] at aV;cases aV
theorem acB {rd:Option Nat} {ay:Fr} {E:Env} {h:ah} {w:World} {id:Nat} (c6:P.follows .mixedOrders=true) (bH:eF P) (cU:gW P call) (dB:hb P call) {r:bB} {a:Act} {order aE:List Nat} (gY:lT ops.size order aE=true) (gm:CK P ops order aE=true)
 {Q:Exit->Act->World->Prop} (af:nD ay E ar (Q .normal) Q (Jr ops order (fD P ar ops (hs ops order)) (rX P ar ops (eI [] ops.toList) aE (hG P aE 0 ops.toList) 0 ops.toList) call r h)) (k:fs E ar r a) (s:bf ay E h w):(Code.region id ops true).wpIn (ct rd) 0 P Q a w:=by
 obtain ⟨kk,ia,la⟩:=Vm gY;obtain ⟨ad,gm⟩:=anC gm;unfold Jr at af;cases cL:(fD P ar ops (hs ops order)).run call r h with
 | fail=>rw [cL] at af;exact af.elim
 | cM _ _ _ _ _=>rw [cL] at af;exact af.elim
 | ok es eN bk=>
   rw [cL] at af;simp only at af;obtain ⟨N,aeo⟩:∃N,N=ops.size-3:=⟨_,rfl⟩;rw [<-aeo] at af gm;cases aA:(DF ops order es (N+1)&&(rX P ar ops (eI [] ops.toList) aE (hG P aE 0 ops.toList) 0 ops.toList).run call (es.take N) (cg es bk N)) with
   | false=>rw [aA] at af;exact af.elim
   | true=>
     rw [aA] at af;simp only [cond_true] at af;simp only [Bool.and_eq_true] at aA;obtain ⟨ES,Ba⟩:=aA;obtain ⟨ao,ax,aL,bY⟩:=uS cL;have hlen:es.length=ops.size:=by rw [ao,qb,kk]
     have inj:∀i j,i<ops.size->j<ops.size->posOf aE i=posOf aE j->i=j:=by intro i j aq a6 he;have a:=(ia i aq).2;have b:=(ia j a6).2;rw [he,b] at a;cases a;rfl
     obtain ⟨mj,tO,yz⟩:=la N (by omega);obtain ⟨o3,yv,tM⟩:=la (N+1) (by omega);obtain ⟨q8,pS,yx⟩:=la (N+2) (by omega);have Bk:ops[mj]? =some ops[mj]:=Array.getElem?_eq_getElem tO;have E1:ops[o3]? =some ops[o3]:=Array.getElem?_eq_getElem yv;have E2:ops[q8]? =some ops[q8]:=Array.getElem?_eq_getElem pS;have KX:=(ia mj tO).2;have KV:=(ia o3 yv).2;have KW:=(ia q8 pS).2;rw [yz] at KX;rw [tM] at KV;rw [yx] at KW;have yZ:∀i o,ops[i]? =some o->¬posOf aE i<N->∃cP,(eI [] ops.toList)[i]? =some cP/\(∀k,k<ops.size->posOf aE k<N->fT cP k=true)/\(posOf aE i=N->e0 P o.op=false/\looks o.op=false)/\(posOf aE i≠N->∃x,s0 o=some x)/\
      (posOf aE i=N+1->fT cP mj=true)/\(posOf aE i=N+2->∀t ∈ b2 ops o,ops[mj].dst≠some t):=by
      intro i o aq jW;obtain ⟨cP,b6,_,_,z4⟩:=gm i o aq;exact ⟨cP,b6,anD KX Bk (z4 jW)⟩
     obtain ⟨aqE,_,_,anA,_⟩:=yZ mj _ Bk (by omega);obtain ⟨akg,SF,_,_,anx,al,_⟩:=yZ o3 _ E1 (by omega);obtain ⟨Ur,Bs,_,_,anz,_,MI⟩:=yZ q8 _ E2 (by omega);obtain ⟨Rh,aj_⟩:=anA yz;obtain ⟨arj,Li⟩:=anx (by omega);obtain ⟨ark,Lj⟩:=anz (by omega);have al:=al tM;have MI:=MI yx;obtain ⟨Jx,eD,fe,zg⟩:=bY _ _ (nf KX Bk);obtain ⟨vD,bN,a2,a3⟩:=bY _ _ (nf KV E1);obtain ⟨Rc,cn,ch,gk⟩:=bY _ _ (nf KW E2);obtain ⟨aq7,aro,ak3,QT,apK⟩:=M_ Li;obtain ⟨aq8,arp,aqL,QU,adq⟩:=M_ Lj;have de:es[N+2+1]? =none:=List.getElem?_eq_none (by omega);have afn:cg es bk (N+2+1)=bk:=by simp [cg,de]
     have amu:eh es eN (N+2+1)=eN:=by simp [eh,de]
     have aen:cg es bk N=Jx.h:=by simp [cg,eD]
     have amf:eh es eN N=Jx.r:=by simp [eh,eD]
     have ael:cg es bk (N+1)=vD.h:=by simp [cg,bN]
     have amd:eh es eN (N+1)=vD.r:=by simp [eh,bN]
     have aem:cg es bk (N+1+1)=Rc.h:=by simp [cg,cn]
     have ame:eh es eN (N+1+1)=Rc.r:=by simp [eh,cn]
     rw [amd] at zg;rw [ael] at fe;rw [QT,ame] at a3;rw [QU,amu] at gk;simp only [fK] at a3 gk;rw [aem] at a2;rw [afn] at ch;obtain ⟨aek,JZ⟩:=vA Rh fe;have JZ:=JZ aj_;obtain ⟨Pj,aqM,ag9,alJ,Ws,an9⟩:=Q6 Li a2;obtain ⟨IJ,aqN,TJ,w0,amI,an'⟩:=Q6 Lj ch;have cR:Pj≠IJ:=ZH ES KV KW E1 E2 bN cn Li Lj alJ w0;have yw:=an' vD.h (by rw [Ws,ah.dv,if_neg cR]);have A_:=an9 (vD.h.set IJ TJ) (by rw [ah.dv,if_neg (fun e=>cR e.symm)]);have aeL:(vD.h.set IJ TJ).set Pj ag9=bk:=by rw [ah.set_comm _ (fun e=>cR e.symm),<-Ws,<-amI]
     rw [aeL] at A_;rw [a3] at yw ch;have wv:eN=vD.r:=gk.trans a3;have afv:∀m,m<ops.size->(posOf aE m<N↔(m≠mj/\m≠o3/\m≠q8)):=by
      intro m hm;have SS:=(ia m hm).1;constructor
      . intro h;exact ⟨fun e=>by subst e;omega,fun e=>by subst e;omega,fun e=>by subst e;omega⟩
      . rintro ⟨cu,cx,e8⟩;have r1:posOf aE m≠N:=fun e=>cu (inj m mj hm tO (by rw [e,yz]));have bS:posOf aE m≠N+1:=fun e=>cx (inj m o3 hm yv (by rw [e,tM]));have bX:posOf aE m≠N+2:=fun e=>e8 (inj m q8 hm pS (by rw [e,yx]));omega
     have aeI:ec P ops[o3]=true:=by unfold ec gR;rw [ak3];rfl
     have yX:∀t ∈ b2 ops ops[q8],T.get .bad (aj t) vD.r=T.get .bad (aj t) Jx.r:=by intro t au;have y2:t<=top:=Nat.le_of_ble_eq_true (List.all_eq_true.1 (ky ch).2 t au);rw [zg,RV (ky fe).1 y2,if_neg (MI t au)]
     have hS:∀i o,ops[i]? =some o->posOf aE i<N->∃e,(es.take N)[posOf aE i]? =some e/\(cB P ar ops o).run call e.r e.h=.val e.v (cg (es.take N) (cg es bk N) (posOf aE i+1))/\eh (es.take N) (eh es eN N) (posOf aE i+1)=(fK o.dst).run e.r e.v:=by
      intro i o aX aq;obtain ⟨e,b6,z2,z3⟩:=bY _ o (nf (ia i (Array.getElem?_eq_some_iff.1 aX).1).2 aX);refine ⟨e,by simp [aq,b6],?_,?_⟩
      . rw [Kg (by omega)];exact z2
      . rw [Wc (by omega)];exact z3
     have C:Cert P ar ops (fun _=>call) (es.take N) r h (eh es eN N) (cg es bk N) (N::hG P aE 0 ops.toList) order aE N N false:=
      ⟨by simp [hlen];omega,by omega,Nat.le_refl _,ia,la,by rw [Kg (Nat.zero_le _)];exact ax,by rw [Wc (Nat.zero_le _)];exact aL,hS,
        fun i o aX=>by obtain ⟨cP,b6,z2,z3,_⟩:=gm i o aX;exact ⟨cP,b6,z2,fun aq k ok aD Kx=>by obtain ⟨mk,dT,e3,y3⟩:=z3 aq k ok aD Kx;exact ⟨mk,dT,e3,fun a b c=>.inl (y3 a b c)⟩⟩,
        by simp,
        fun j o aa ad=>List.mem_cons_of_mem _ (by simpa using zl (aE:=aE) (i:=0) (j:=j) (l:=ops.toList) (by simpa using aa) ad),
        fun s aM=>by
         rcases List.mem_cons.1 aM with rfl | aM
         . exact .inl (.inr ⟨rfl,rfl⟩)
         . rcases uo aM with h | ⟨j,o,aa,ad,aH⟩
           . exact .inl (.inl (by simpa using h))
           . exact .inr ⟨j,o,by simpa using aa,ad,by simpa using aH⟩,
        fun j o aa ad aH bt=>by
         obtain ⟨e,g1,_⟩:=hS j o aa bt;have S9:=IE Ba j o (by simpa using aa) ad aH e (by simpa using g1);refine ⟨e,g1,fun s aM hm=>?_⟩;rcases List.mem_cons.1 aM with rfl | aM
         . have mR:sK P (eI [] ops.toList) ops.toList aE j (((eI [] ops.toList)[j]?).getD 0) (s+1)=true:=by
            unfold sK at hm ⊢;refine NJ (by rw [LO];simp) fun c' mk ok dT e3=>?_;obtain ⟨mk',bq,dx⟩:=qo hm c' ok e3;rw [dT] at bq;cases bq;simp only [Nat.zero_add] at dx ⊢;have bF:ops[c']? =some ok:=by simpa using e3
            have jY:=(Array.getElem?_eq_some_iff.1 bF).1;by_cases oT:posOf aE c'=s
            . have:c'=mj:=inj c' mj jY tO (by rw [oT,yz]);subst this;rw [Bk] at bF;cases bF;have afx:ec P ops[c']=false:=by unfold ec;rw [Rh];rfl
              rw [afx];rfl
            . have:Nat.blt (posOf aE c') (s+1)=Nat.blt (posOf aE c') s:=by
               rw [Bool.eq_iff_iff,Nat.blt_eq,Nat.blt_eq];omega
              rw [this];exact dx
           have yP:s+1 ∈ hG P aE 0 ops.toList:=by rw [<-tM];simpa using zl (P:=P) (aE:=aE) (i:=0) (j:=o3) (l:=ops.toList) (by simp) aeI
           obtain ⟨ab,g3⟩:=S9 (s+1) yP (by simpa using mR);refine ⟨call,ab,⟨cU,dB⟩,?_⟩;have aN:cg (es.take s) (cg es bk s) (s+1)=cg es bk s:=by have:(es.take s)[s+1]? =none:=List.getElem?_eq_none (by simp;omega);simp only [cg,this]
           have aZ:cg (es.take s) (cg es bk s) s=cg es bk s:=Kg (Nat.le_refl _);rw [aN] at g3;rw [aZ];exact g3
         . obtain ⟨ab,g3⟩:=S9 s aM (by simpa using hm);exact ⟨call,ab,⟨cU,dB⟩,g3⟩,
        fun _=>⟨rfl,fun c' ok mk aD jW mT j a6 Bl=>by obtain ⟨cP,b6,z2,_⟩:=yZ c' ok aD (by omega);rw [mT] at b6;cases b6;exact z2 j a6 Bl⟩,
        fun aa ad=>by omega⟩
     refine Js c6 bH cU dB k s C (fun h=>by omega) (fun _ _ _ _ _ _ _ _ h=>by omega) (fun _ fuel listed aw bs w' g1 g2 g3 g4 g5 g6 g7=>?_);rw [amf] at g6;rw [aen] at g7;rw [aek] at a2 yw A_;refine anE bH cU dB (fun i o aX=>by obtain ⟨cP,_,z2,_⟩:=gm i o aX;exact z2) Bk E1 E2 (fun e=>by rw [e] at yz;omega) (fun e=>by rw [e] at yz;omega) (fun e=>by rw [e] at tM;omega) QT QU
      JZ zg yX a2 ch yw A_ g6 g7 (fun bL a2 bV b0 b1 cS=>af bL a2 bV (g5.trans b0) (by rw [wv];exact b1) cS) g2 g3 (fun cP me=>by rw [SF] at me;cases me;exact al) ⟨akg,SF⟩ (fun m hm=>(g4 m hm).trans (afv m hm)) fuel ?_
     have Ji:∀(L:Array Bool) (x:Nat),L.size=ops.size->x<ops.size->¬L.getD x false=true->(List.range ops.size).countP (fun k=>!(L.setIfInBounds x true).getD k false) < (List.range ops.size).countP (fun k=>!L.getD k false):=by
      intro L x eY ai aQ;have y_:x<L.size:=by rw [eY];exact ai
      refine Ea (fun k=>!L.getD k false) (fun k=>!(L.setIfInBounds x true).getD k false) (List.range ops.size) (fun k _ aD=>?_) ⟨x,List.mem_range.2 ai,?_,?_⟩
      . simp only [Bool.not_eq_true'] at aD ⊢;cases aA:L.getD k false with
        | false=>rfl
        | true=>
          have:=(fO (k:=k) y_).2 (.inr aA);rw [aD] at this;cases this
      . cases aA:L.getD x false with
        | false=>rfl
        | true=>exact absurd aA aQ
      . have:=(fO (k:=x) y_).2 (.inl rfl);simp [this]
     have akA:¬listed.getD mj false=true:=fun h=>by have:=(g4 mj tO).1 h;omega
     have aky:¬listed.getD o3 false=true:=fun h=>by have:=(g4 o3 yv).1 h;omega
     have akz:¬listed.getD q8 false=true:=fun h=>by have:=(g4 q8 pS).1 h;omega
     have bS:=Ji listed mj g2 tO akA;have bX:=Ji (listed.setIfInBounds mj true) o3 (by simp [g2]) yv (fun h=>by
      rcases (fO (by rw [g2];exact tO)).1 h with e | h
      . rw [e] at tM;omega
      . exact aky h)
     have c3:=Ji ((listed.setIfInBounds mj true).setIfInBounds o3 true) q8 (by simp [g2]) pS (fun h=>by
      rcases (fO (by simp [g2];exact yv)).1 h with e | h
      . rw [e] at yx;omega
      . rcases (fO (by rw [g2];exact tO)).1 h with e | h
        . rw [e] at yx;omega
        . exact akz h)
     omega
end
section
variable {P:Program} {ar:Nat} {ops:Array Oper} {call:dJ}
inductive px {α β:Type} (R:α->β->Prop):List α->List β->Prop
 | nil:px R [] []
 | cons {a:α} {b:β} {LJ:List α} {LK:List β} (h:R a b) (t:px R LJ LK):px R (a::LJ) (b::LK)
def w9 (ops:Array Oper) (t:Nat) (listed:Array Bool):Option Nat:=(Region.ready .any ops listed)[t % (Region.ready .any ops listed).length]?
theorem go_succ (fuel t:Nat) (listed:Array Bool):Region.linearise.go .any ops (fuel+1) t listed []=match w9 ops t listed with
 | some i=>i::Region.linearise.go .any ops fuel (t / (Region.ready .any ops listed).length) (listed.setIfInBounds i true) []
 | none=>[]:=by
 simp only [Region.linearise.go];change (match (Region.ready .any ops listed)[t % (Region.ready .any ops listed).length]? with
  | some i=>Region.linearise.go .any ops fuel (t / (Region.ready .any ops listed).length) (listed.setIfInBounds i true) [i]
  | none=>[].reverse)=_
 unfold w9;cases (Region.ready .any ops listed)[t % (Region.ready .any ops listed).length]? with
 | none=>rfl
 | some i=>
   simp only;rw [linearise_go_acc,List.reverse_singleton,List.singleton_append]
theorem V_ {t:Nat} {listed:Array Bool} (h:w9 ops t listed=none):Region.ready .any ops listed=[]:=by
 unfold w9 at h;cases aG:Region.ready .any ops listed with
 | nil=>rfl
 | cons x xs=>
   rw [aG] at h;have aT:t % (x::xs).length < (x::xs).length:=Nat.mod_lt _ (by simp);rw [List.getElem?_eq_getElem aT] at h;cases h
theorem ML {t i:Nat} {listed:Array Bool} (h:w9 ops t listed=some i):i ∈ Region.ready .any ops listed:=List.mem_of_getElem? h
theorem count_set {listed:Array Bool} {i:Nat} (b':listed.size=ops.size) (aq:i<ops.size) (aQ:¬listed.getD i false=true):
 (List.range ops.size).countP (fun k=>!(listed.setIfInBounds i true).getD k false) < (List.range ops.size).countP (fun k=>!listed.getD k false):=by
 have az:i<listed.size:=by rw [b'];exact aq
 refine Ea (fun k=>!listed.getD k false) (fun k=>!(listed.setIfInBounds i true).getD k false) (List.range ops.size) (fun k _ aD=>?_) ⟨i,List.mem_range.2 aq,?_,?_⟩
 . simp only [Bool.not_eq_true'] at aD ⊢;cases aA:listed.getD k false with
   | false=>rfl
   | true=>
     have:=(fO (k:=k) az).2 (.inr aA);rw [aD] at this;cases this
 . cases aA:listed.getD i false with
   | false=>rfl
   | true=>exact absurd aA aQ
 . have:=(fO (k:=i) az).2 (.inl rfl);simp [this]
theorem R0 (iu:∀i o,ops[i]? =some o->mq i o=true):∀(fuel t:Nat) (listed:Array Bool),listed.size=ops.size->(List.range ops.size).countP (fun i=>!listed.getD i false)<=fuel->
 (Region.linearise.go .any ops fuel t listed []).Nodup/\(∀k ∈ Region.linearise.go .any ops fuel t listed [],k<ops.size/\¬listed.getD k false=true)/\
  ∀k,k<ops.size->listed.getD k false=true\/k ∈ Region.linearise.go .any ops fuel t listed []
 | 0,t,listed,b',aC=>by
   have e:Region.linearise.go .any ops 0 t listed []=[]:=rfl;rw [e];refine ⟨List.nodup_nil,fun k aD=>by simp at aD,fun k aD=>.inl ?_⟩;have a8:(List.range ops.size).countP (fun i=>!listed.getD i false)=0:=by omega
   rw [List.countP_eq_zero] at a8;simpa using a8 k (List.mem_range.2 aD)
 | fuel+1,t,listed,b',aC=>by
   rw [go_succ];cases aG:w9 ops t listed with
   | none=>
     simp only;exact ⟨List.nodup_nil,fun k aD=>by simp at aD,fun k aD=>.inl (zH iu b' (V_ aG) k aD)⟩
   | some i=>
     simp only;obtain ⟨i1,i2⟩:=w_ b' (ML aG);have az:i<listed.size:=by rw [b'];exact i1
     have:=count_set b' i1 i2;obtain ⟨g1,g2,g3⟩:=R0 iu fuel (t / (Region.ready .any ops listed).length) (listed.setIfInBounds i true) (by simp [b']) (by omega);refine ⟨List.nodup_cons.2 ⟨fun hm=>(g2 i hm).2 ((fO az).2 (.inl rfl)),g1⟩,fun k aD=>?_,fun k aD=>?_⟩
     . rcases List.mem_cons.1 aD with rfl | aD
       . exact ⟨i1,i2⟩
       . exact ⟨(g2 k aD).1,fun h=>(g2 k aD).2 ((fO az).2 (.inr h))⟩
     . rcases g3 k aD with h | h
       . rcases (fO az).1 h with rfl | h
         . exact .inr (by simp)
         . exact .inl h
       . exact .inr (by simp [h])
theorem G1 {o:Oper} {os:List Oper} {r:bB} {h:ah} {es:List eS} {cZ:bB} {aB:ah} (he:(fD P ar ops (o::os)).run call r h=.ok es cZ aB):
 ∃v aa hC,(cB P ar ops o).run call r h=.val v aa/\(fD P ar ops os).run call ((fK o.dst).run r v) aa=.ok hC cZ aB/\es=⟨r,h,v⟩::hC:=by
 simp only [fD,CI] at he;cases aa:(cB P ar ops o).run call r h with
 | fail=>rw [aa] at he;cases he
 | cM _ _=>rw [aa] at he;simp only at he;cases hm:lQ o.op<;>rw [hm] at he<;>cases he
 | val v bk=>
   rw [aa] at he;simp only at he;cases ad:(fD P ar ops os).run call ((fK o.dst).run r v) bk with
   | fail=>rw [ad] at he;cases he
   | cM _ _ _ _ _=>rw [ad] at he;cases he
   | ok hC bD aH=>
     rw [ad] at he;simp only [qs.ok.injEq] at he;obtain ⟨rfl,rfl,rfl⟩:=he;exact ⟨v,bk,hC,rfl,ad,rfl⟩
theorem G2 {o:Oper} {os:List Oper} {r:bB} {h aa:ah} {v:V} {hC:List eS} {cZ:bB} {aB:ah} (a8:(cB P ar ops o).run call r h=.val v aa) (ad:(fD P ar ops os).run call ((fK o.dst).run r v) aa=.ok hC cZ aB):
 (fD P ar ops (o::os)).run call r h=.ok (⟨r,h,v⟩::hC) cZ aB:=by
 simp only [fD,CI,a8,ad]
theorem M9:∀(eD fe:List Oper) {r:bB} {h:ah} {es:List eS} {cZ:bB} {aB:ah},(fD P ar ops (eD++fe)).run call r h=.ok es cZ aB->
 ∃hC bD aa qN,(fD P ar ops eD).run call r h=.ok hC bD aa/\(fD P ar ops fe).run call bD aa=.ok qN cZ aB/\es=hC++qN
 | [],fe,r,h,es,cZ,aB,he=>⟨[],r,h,es,rfl,he,rfl⟩
 | o::os,fe,r,h,es,cZ,aB,he=>by obtain ⟨v,aa,hC,ao,ax,rfl⟩:=G1 he;obtain ⟨JG,bD,aH,qN,g1,g2,rfl⟩:=M9 os fe ax;exact ⟨⟨r,h,v⟩::JG,bD,aH,qN,G2 ao g1,g2,rfl⟩
theorem M':∀(eD fe:List Oper) {r bD cZ:bB} {h aa aB:ah} {hC qN:List eS},(fD P ar ops eD).run call r h=.ok hC bD aa->(fD P ar ops fe).run call bD aa=.ok qN cZ aB->
 (fD P ar ops (eD++fe)).run call r h=.ok (hC++qN) cZ aB
 | [],fe,r,bD,cZ,h,aa,aB,hC,qN,he,ad=>by simp only [fD,qs.ok.injEq] at he;obtain ⟨rfl,rfl,rfl⟩:=he;exact ad
 | o::os,fe,r,bD,cZ,h,aa,aB,hC,qN,he,ad=>by obtain ⟨v,aH,JG,ao,ax,rfl⟩:=G1 he;exact G2 ao (M' os fe ax ad)
theorem Ck:∀(a b:List Nat),hs ops (a++b)=hs ops a++hs ops b
 | [],b=>rfl
 | x::xs,b=>by simp [hs,Ck xs b]
theorem V3:∀(l:List Oper),(∀o ∈ l,e0 P o.op=false/\looks o.op=false)->∀{r cZ:bB} {h aB:ah} {es:List eS},(fD P ar ops l).run call r h=.ok es cZ aB->
 aB=h/\∀H:ah,∃gf,(fD P ar ops l).run call r H=.ok gf cZ H
 | [],_,r,cZ,h,aB,es,he=>by simp only [fD,qs.ok.injEq] at he;obtain ⟨rfl,rfl,rfl⟩:=he;exact ⟨rfl,fun H=>⟨[],rfl⟩⟩
 | o::os,aA,r,cZ,h,aB,es,he=>by obtain ⟨v,aa,hC,ao,ax,rfl⟩:=G1 he;obtain ⟨aN,aZ⟩:=aA o (by simp);obtain ⟨d1,d2⟩:=vA aN ao;subst d1;obtain ⟨g1,g2⟩:=V3 os (fun cb hD=>aA cb (by simp [hD])) ax;refine ⟨g1,fun H=>?_⟩;obtain ⟨gf,g3⟩:=g2 H;exact ⟨_,G2 (d2 aZ H) g3⟩
theorem BP {o:Oper} {A:xM} (h:lJ o=some A):o.op=.insert A.t A.m A.k A.x/\o.dst=none/\o.guard=none:=by
 unfold lJ at h
 split at h
 case h_2=>cases h
 rename_i t m k x aX
 split at h
 case h_2=>cases h
 rename_i bb
 split at h
 case h_2=>cases h
 rename_i aF;cases h;exact ⟨aX,bb,aF⟩
theorem VU {e:dG} {k v:V} {c:Nat}:∀{es:List cE},(∀m ∈ es,e.run k m.k=some false)->kM e k v c es=some (es++[⟨k,v,c⟩],true)
 | [],_=>rfl
 | m::ms,h=>by simp only [kM,h m (by simp),cond_false,VU (es:=ms) fun cj mR=>h cj (by simp [mR]),List.cons_append]
theorem acv {o:Oper} {A:xM} (yL:BW P A.t=true) (hP:lJ o=some A) {r:bB} {H1 cy:ah} {v:V} (he:(cB P ar ops o).run call r H1=.val v cy) {b:aO} (ae:(bQ A.m).run (dq r (b2 ops o))=.map b):
 ∀(H:ah) es c,H.get b=.mp es c->(∀m ∈ es,(uj P A.t).run ((bQ A.k).run (dq r (b2 ops o))) m.k=some false)->
  (cB P ar ops o).run call r H=.val .bad (H.set b (.mp (es++[⟨(bQ A.k).run (dq r (b2 ops o)),(bQ A.x).run (dq r (b2 ops o)),c⟩]) (c+1))):=by
 obtain ⟨aX,bb,aF⟩:=BP hP;obtain ⟨aa,ad⟩:=ky he;have key:cB P ar ops o=⟨ja none (fi P o) (b2 ops o)⟩:=by unfold cB;rw [show (eW ar o.dst&&jN (b2 ops o))=true from by rw [aa,ad];rfl,aF];rfl
 rw [key] at he ⊢;simp only [ja] at he ⊢;have vY:∀H,(fi P o).run call (dq r (b2 ops o)) H=gG .bad ((pt P A.t).run H (.map b) ((bQ A.k).run (dq r (b2 ops o))) ((bQ A.x).run (dq r (b2 ops o)))):=by intro H;unfold fi;rw [aX];simp only [ae]
 rw [vY] at he;have agf:pt P A.t=⟨kt (uj P A.t)⟩:=by
  cases aM:(pt P A.t).run H1 (.map b) ((bQ A.k).run (dq r (b2 ops o))) ((bQ A.x).run (dq r (b2 ops o))) with
  | none=>rw [aM] at he;cases he
  | some aH=>
    unfold pt at aM ⊢;unfold uj;cases au:a' P A.t with
    | none=>rw [au] at aM;cases aM
    | some aP=>
      rw [au] at aM;simp only at aM ⊢;cases bR:aP.bg<;>rw [bR] at aM<;>simp only at aM ⊢<;>try (cases aM;done)
      rename_i cw hg;cases nV:a' P cw with
      | none=>rw [nV] at aM;cases aM
      | some gC=>
        rw [nV] at aM;simp only at aM ⊢;cases aB:kH gC.bg with
        | false=>
          unfold BW at yL;rw [au] at yL;simp only [bR,nV,aB] at yL;cases yL
        | true=>rfl
 intro H es c k2 aD;rw [vY,agf];simp only [kt,k2,b9.jJ,VU aD,gG,cond_true]
theorem agV {o:Oper} {r:bB} {b:aO} {m:cE} (h:ug ops r b o=some m):∃A,lJ o=some A/\(bQ A.m).run (dq r (b2 ops o))=.map b/\m.k=(bQ A.k).run (dq r (b2 ops o))/\m.v=(bQ A.x).run (dq r (b2 ops o)):=by
 unfold ug at h;cases aV:lJ o with
 | none=>rw [aV] at h;cases h
 | some A=>
   rw [aV] at h;simp only at h;cases hm:(bQ A.m).run (dq r (b2 ops o))<;>rw [hm] at h<;>simp only at h<;>try (cases h;done)
   obtain ⟨aC,aa⟩:=ey h;have:=aO.kY aC;subst this;cases aa;exact ⟨A,rfl,hm,rfl,rfl⟩
def kP (ops:Array Oper) (r:bB) (b:aO) (i:Nat) (m:cE):Prop:=∃o,ops[i]? =some o/\ug ops r b o=some m
theorem kP.Jn {r:bB} {b:aO} {i:Nat} {m cj:cE} (h:kP ops r b i m) (ab:kP ops r b i cj):m=cj:=by obtain ⟨o,aa,ad⟩:=h;obtain ⟨cb,aH,bt⟩:=ab;rw [aa] at aH;cases aH;rw [ad] at bt;cases bt;rfl
theorem FG {r:bB} {b:aO}:∀{is:List Nat} {ms:List cE},wF ops r b is=some ms->px (kP ops r b) is ms
 | [],ms,h=>by simp only [wF,Option.some.injEq] at h;subst h;exact .nil
 | i::is,ms,h=>by
   simp only [wF] at h;cases aX:ops[i]? with
   | none=>rw [aX] at h;cases h
   | some o=>
     rw [aX] at h;simp only at h;cases hm:ug ops r b o with
     | none=>rw [hm] at h;cases h
     | some m=>
       rw [hm] at h;simp only at h;cases aM:wF ops r b is with
       | none=>rw [aM] at h;cases h
       | some aqG=>
         rw [aM] at h;simp only [Option.some.injEq] at h;subst h;exact .cons ⟨o,aX,hm⟩ (FG aM)
theorem TF {x:Option Bool} (h:isFalse x=true):x=some false:=by
 cases x with
 | none=>cases h
 | some b=>cases b<;>simp_all [isFalse]
theorem IB {e:dG} {m:cE}:∀{ms:List cE},DG e m ms=true->∀cj ∈ ms,e.run m.k cj.k=some false/\e.run cj.k m.k=some false
 | [],_,cj,h=>by simp at h
 | x::xs,h,cj,hm=>by
   simp only [DG,Bool.and_eq_true] at h;rcases List.mem_cons.1 hm with rfl | hm
   . exact ⟨TF h.1,TF h.2.1⟩
   . exact IB h.2.2 cj hm
theorem O7 {r:bB} {b:aO} {e:dG}:∀{is:List Nat} {ms:List cE},px (kP ops r b) is ms->is.Nodup->AE e ms=true->∀i j m cj,i ∈ is->j ∈ is->i≠j->kP ops r b i m->kP ops r b j cj->e.run m.k cj.k=some false
 | _,_,.nil,_,_,i,_,_,_,aq,_,_,_,_=>by simp at aq
 | _,_,.cons (a:=x) (b:=dV) (LJ:=xs) (LK:=akx) a8 au,aQ,aV,i,j,m,cj,aq,a6,mO,hm,mR=>by
   simp only [AE,Bool.and_eq_true] at aV;rw [List.nodup_cons] at aQ;have Tt:∀k n,k ∈ xs->kP ops r b k n->n ∈ akx:=by
    intro k n aD Bn;have gen:∀{is:List Nat} {ms:List cE},px (kP ops r b) is ms->k ∈ is->n ∈ ms:=by
     intro is ms aB
     induction aB with
     | nil=>intro aD;simp at aD
     | cons aa _ bd=>
       intro aD;rcases List.mem_cons.1 aD with rfl | aD
       . rw [Bn.Jn aa];simp
       . exact List.mem_cons_of_mem _ (bd aD)
    exact gen au aD
   rcases List.mem_cons.1 aq with Sy | aq
   . rcases List.mem_cons.1 a6 with Kv | a6
     . exact absurd (Sy.trans Kv.symm) mO
     . rw [Sy] at hm;rw [hm.Jn a8];exact (IB aV.1 cj (Tt j cj a6 mR)).1
   . rcases List.mem_cons.1 a6 with Kv | a6
     . rw [Kv] at mR;rw [mR.Jn a8];exact (IB aV.1 m (Tt i m aq hm)).2
     . exact O7 au aQ.2 aV.2 i j m cj aq a6 mO hm mR
theorem Lo {ji:bB} {b:aO} {e:dG} {I:List Nat} (sd:∀i ∈ I,∃o A m,ops[i]? =some o/\lJ o=some A/\(BW P A.t=true/\uj P A.t=e)/\ug ops ji b o=some m/\∃v H1 cy,(cB P ar ops o).run call ji H1=.val v cy)
 (mK:∀i j m cj,i ∈ I->j ∈ I->i≠j->kP ops ji b i m->kP ops ji b j cj->e.run m.k cj.k=some false):
 ∀(τ:List Nat) (done:List Nat) (ds:List cE) (c:Nat) (H:ah),(∀i ∈ τ,i ∈ I)->(∀i ∈ done,i ∈ I)->(done++τ).Nodup->(∀m ∈ ds,∃i ∈ done,∃cj,kP ops ji b i cj/\m.k=cj.k)->H.get b=.mp ds c->
  ∃es ms gN ku,(fD P ar ops (hs ops τ)).run call ji H=.ok es ji ku/\ku.get b=.mp (ds++ms) gN/\(∀k,b≠k->ku.get k=H.get k)/\(∀k,ku.set b k=H.set b k)/\(∀e ∈ es,∀k,b≠k->e.h.get k=H.get k)/\
   px (fun i (m:cE)=>∃cj,kP ops ji b i cj/\m.k=cj.k/\m.v=cj.v) τ ms
 | [],done,ds,c,H,_,_,_,_,k2=>⟨[],[],c,H,rfl,by rw [List.append_nil];exact k2,fun _ _=>rfl,fun _=>rfl,fun e he=>by simp at he,.nil⟩
 | i::τ,done,ds,c,H,FA,Sp,oV,yE,k2=>by
   obtain ⟨o,A,m,aX,hP,⟨yL,wg⟩,hm,v,H1,cy,cV⟩:=sd i (FA i (by simp));obtain ⟨j_,R7,ae,aD,ai⟩:=agV hm;rw [hP] at R7;cases R7;have q3:i ∉ done:=fun h=>by rw [List.nodup_append] at oV;exact oV.2.2 i h i (by simp) rfl
   have hS:=acv yL hP cV ae H ds c k2 (fun cj mR=>by obtain ⟨j,a6,akm,aeX,afj⟩:=yE cj mR;rw [afj,wg,<-aD];exact mK i j m akm (FA i (by simp)) (Sp j a6) (fun e=>q3 (e ▸ a6)) ⟨o,aX,hm⟩ aeX);obtain ⟨_,bb,_⟩:=BP hP;obtain ⟨es,ms,gN,ku,g1,g2,g3,g4,g6,g5⟩:=Lo sd mK τ (done++[i]) (ds++[⟨(bQ A.k).run (dq ji (b2 ops o)),(bQ A.x).run (dq ji (b2 ops o)),c⟩]) (c+1)
    (H.set b (.mp (ds++[⟨(bQ A.k).run (dq ji (b2 ops o)),(bQ A.x).run (dq ji (b2 ops o)),c⟩]) (c+1))) (fun j a6=>FA j (by simp [a6]))
    (fun j a6=>by
      rcases List.mem_append.1 a6 with h | h
      . exact Sp j h
      . simp only [List.mem_singleton] at h;subst h;exact FA j (by simp)) (by simpa using oV)
    (fun cj mR=>by
      rcases List.mem_append.1 mR with h | h
      . obtain ⟨j,a6,r⟩:=yE cj h;exact ⟨j,by simp [a6],r⟩
      . simp only [List.mem_singleton] at h;subst h;exact ⟨i,by simp,m,⟨o,aX,hm⟩,aD.symm⟩) (by rw [ah.dv,if_pos rfl])
   have S6:=G2 (os:=hs ops τ) hS (by rw [bb];exact g1);rw [show o::hs ops τ=hs ops (i::τ) from by simp [hs,aX]] at S6;refine ⟨_,⟨(bQ A.k).run (dq ji (b2 ops o)),(bQ A.x).run (dq ji (b2 ops o)),c⟩::ms,gN,ku,S6,by rw [g2,List.append_assoc];rfl,fun k aD=>?_,fun k=>?_,fun c9 eG k aD=>?_,.cons ⟨m,⟨o,aX,hm⟩,aD.symm,ai.symm⟩ g5⟩
   . rw [g3 k aD,ah.dv,if_neg aD]
   . rw [g4];unfold ah.set;simp only [T.VX]
   . rcases List.mem_cons.1 eG with rfl | eG
     . rfl
     . rw [g6 c9 eG k aD,ah.dv,if_neg aD]
def qB (E:Env):List (V × V)->List MapEntry->Prop
 | [],l=>l=[]
 | p::bj,l=>∃e es,l=e::es/\Rel E p.1 e.key/\Rel E p.2 e.val/\qB E bj es
theorem qB.perm {E:Env} {bj g_:List (V × V)} (h:bj.Perm g_):∀{l:List MapEntry},qB E g_ l->∃cG,qB E bj cG/\cG.Perm l:=by
 induction h with
 | nil=>intro l h;exact ⟨l,h,.refl _⟩
 | cons x _ bd=>
   intro l h;obtain ⟨e,es,rfl,aa,ad,aH⟩:=h;obtain ⟨cG,g1,g2⟩:=bd aH;exact ⟨e::cG,⟨e,cG,rfl,aa,ad,g1⟩,g2.cons e⟩
 | swap x y iF=>
   intro l h;obtain ⟨e,es,rfl,aa,ad,c9,gf,rfl,aH,bt,cI⟩:=h;exact ⟨c9::e::gf,⟨c9,_,rfl,aH,bt,e,gf,rfl,aa,ad,cI⟩,List.Perm.swap _ _ _⟩
 | trans _ _ BO wB=>
   intro l h;obtain ⟨eD,g1,g2⟩:=wB h;obtain ⟨fe,g3,g4⟩:=BO g1;exact ⟨fe,g3,g4.trans g2⟩
theorem qB.U1 {E:Env}:∀{ms:List cE} {l:List MapEntry},ew E ms l->qB E (ms.map fun m=>(m.k,m.v)) l
 | [],l,h=>h
 | m::ms,l,h=>by obtain ⟨e,es,rfl,aa,ad,_,bt⟩:=h;exact ⟨e,es,rfl,aa,ad,qB.U1 bt⟩
theorem nG.U2 {E:Env}:∀{ms:List cE} {l:List MapEntry},qB E (ms.map fun m=>(m.k,m.v)) l->nG E ms l
 | [],l,h=>h
 | m::ms,l,h=>by obtain ⟨e,es,rfl,aa,ad,bt⟩:=h;exact ⟨e,es,rfl,aa,ad,nG.U2 bt⟩
theorem bf.forget {ay:Fr} {E:Env} {h:ah} {w:World} (s:bf ay E h w) {b:aO} {p:jr} {es ms:List cE} {c:Nat} (aF:h.get b=.mp es c) (af:E b=some p) (gY:(ms.map fun m=>(m.k,m.v)).Perm (es.map fun m=>(m.k,m.v))):
 bf ay E (h.set b (.jH ms)) w:=by
 have ae:=s.at af;rw [aF] at ae;obtain ⟨p',a,eZ,dc,bk,hm⟩:=ae;rw [af] at eZ;cases eZ;obtain ⟨l,g1,g2⟩:=qB.perm gY (qB.U1 hm);exact s.set (by rw [aF];rfl) af dc (Nat.le_refl _) (fun _ _=>rfl) rfl rfl rfl (fun _ _ _ e=>by cases e) ⟨p,a,c,l,af,dc,bk,nG.U2 g1,g2⟩
theorem TB:∀(l:List Oper),(∀o ∈ l,o.dst=none)->∀{r cZ:bB} {h aB:ah} {es:List eS},(fD P ar ops l).run call r h=.ok es cZ aB->∀o ∈ l,∃v H1 cy,(cB P ar ops o).run call r H1=.val v cy
 | [],_,_,_,_,_,_,_,o,aX=>by simp at aX
 | x::xs,bb,r,cZ,h,aB,es,he,o,aX=>by
   obtain ⟨v,aa,hC,ao,ax,rfl⟩:=G1 he;rcases List.mem_cons.1 aX with rfl | aX
   . exact ⟨v,h,aa,ao⟩
   . rw [bb x (by simp)] at ax;exact TB xs (fun cb hD=>bb cb (by simp [hD])) ax o aX
theorem aj9 {t:TypeId} {H H1:ah} {c:aO} {off:Nat} (h:H.get c=H1.get c):(p6 P t).run H (.ptr c off)=(p6 P t).run H1 (.ptr c off):=by
 unfold p6;cases a' P t with
 | none=>rfl
 | some aP=>
   simp only;cases aP.agg with
   | true=>simp only [cond_true,na,V.jK,h]
   | false=>
     simp only [cond_false];cases Nat.beq aP.size 1 with
     | true=>simp only [cond_true,nb,V.jK,h]
     | false=>rfl
theorem acx {o:Oper} {t:TypeId} {x:Operand} (aX:o.op=.load t x) (aF:o.guard=none) {r:bB} {H1 ab:ah} {v:V} (he:(cB P ar ops o).run call r H1=.val v ab) {c:aO} {off:Nat} (ai:(bQ x).run (dq r (b2 ops o))=.ptr c off)
 (H:ah) (k2:H.get c=H1.get c):(cB P ar ops o).run call r H=.val v H:=by
 obtain ⟨aa,ad⟩:=ky he;have key:cB P ar ops o=⟨ja none (fi P o) (b2 ops o)⟩:=by unfold cB;rw [show (eW ar o.dst&&jN (b2 ops o))=true from by rw [aa,ad];rfl,aF];rfl
 rw [key] at he ⊢;simp only [ja] at he ⊢;have vY:∀H,(fi P o).run call (dq r (b2 ops o)) H=a7.of H ((p6 P t).run H (.ptr c off)):=by intro H;unfold fi;rw [aX];simp only [ai]
 rw [vY] at he ⊢;rw [aj9 k2];exact a7.wZ he H
theorem Uk {es:List eS} {h:ah} {b:aO}:∀{is:List Nat} {p:Nat},B6 P ops es h b call ar is p=true->∀q i o t x,is[q]? =some i->ops[i]? =some o->o.op=.load t x->
 ∃e c off ab,es[p+q]? =some e/\(bQ x).run (dq e.r (b2 ops o))=.ptr c off/\c≠b/\o.guard=none/\(cB P ar ops o).run call e.r h=.val e.v ab
 | [],_,_,q,i,o,t,x,h,_,_=>by simp at h
 | j::ag5,p,az,q,i,o,t,x,aA,aX,j0=>by
   simp only [B6] at az;cases q with
   | succ q=>
     cases a6:ops[j]? with
     | none=>rw [a6] at az;cases az
     | some aqQ=>
       rw [a6] at az;simp only [Bool.and_eq_true] at az;have:=Uk az.2 q i o t x (by simpa using aA) aX j0;rw [show p + (q+1)=p+1+q from by omega];exact this
   | zero=>
     simp only [List.getElem?_cons_zero,Option.some.injEq] at aA;subst aA;rw [aX] at az;simp only [Bool.and_eq_true] at az;have aa:=az.1;rw [j0] at aa;simp only at aa;rw [Nat.add_zero];cases he:es[p]? with
     | none=>rw [he] at aa;cases aa
     | some e=>
       rw [he] at aa;simp only at aa;cases ai:(bQ x).run (dq e.r (b2 ops o))<;>rw [ai] at aa<;>simp only at aa<;>try (cases aa;done)
       rename_i c off;simp only [Bool.and_eq_true,Bool.not_eq_true'] at aa;cases aF:o.guard with
       | some _=>rw [aF] at aa;cases aa.2
       | none=>
         rw [aF] at aa;simp only at aa;have ad:=aa.2;cases aG:(cB P ar ops o).run call e.r h with
         | fail=>rw [aG] at ad;cases ad
         | cM _ _=>rw [aG] at ad;cases ad
         | val v ab=>
           rw [aG] at ad;have ba:=JF ad;exact ⟨e,c,off,ab,rfl,ai,(fun e=>by rw [e,aO.yf] at aa;cases aa.1),rfl,by rw [aG,ba]⟩
theorem zc {k:Nat}:∀{l:List Nat} {p:Nat},l.Nodup->l[p]? =some k->l.idxOf k=p
 | [],_,_,h=>by simp at h
 | x::xs,p,aQ,h=>by
   rw [List.nodup_cons] at aQ;cases p with
   | zero=>
     simp only [List.getElem?_cons_zero,Option.some.injEq] at h;subst h;simp
   | succ p=>
     have ai:xs[p]? =some k:=by simpa using h
     have cR:x≠k:=fun e=>aQ.1 (e ▸ List.mem_of_getElem? ai);rw [List.idxOf_cons];simp only [beq_iff_eq,cR,cond_false,show (x == k)=false from by simpa using cR];rw [zc aQ.2 ai]
def ml (ops:Array Oper) (i:Nat):Bool:=
 match ops[i]? with
 | some o=>k7 o
 | none=>false
theorem FI {o:Oper} {A:xM} (h:lJ o=some A):k7 o=true/\e0 P o.op=true/\gR o=false:=by obtain ⟨aX,_,_⟩:=BP h;refine ⟨by unfold k7;rw [aX],by rw [aX];rfl,by unfold gR;rw [aX]⟩
theorem aj0 {aE:List Nat} {cu cx:Nat} {t:TypeId} (aB:B3 P ops aE cu cx t=true):∀i o,ops[i]? =some o->∃cP,(eI [] ops.toList)[i]? =some cP/\mq i o=true/\
 (∀k ok,ops[k]? =some ok->∃mk,(eI [] ops.toList)[k]? =some mk/\pc i cP (b2 ops o) o.dst k mk ok (Nat.blt (posOf aE k) (posOf aE i))=true)/\
 (posOf aE i<cu->k7 o=false/\ec P o=false/\(looks o.op=true->e0 P o.op=false->∃t x,o.op=.load t x))/\
 (¬posOf aE i<cu->posOf aE i<cx->∃A,lJ o=some A/\A.t=t)/\
 (¬posOf aE i<cu->¬posOf aE i<cx->e0 P o.op=false/\looks o.op=false):=by
 unfold B3 at aB;simp only [Bool.and_eq_true] at aB;replace aB:=aB.2;intro i o aq;obtain ⟨cP,aa,ad⟩:=qo aB i o (by simpa using aq);simp only [Nat.zero_add,Bool.and_eq_true] at ad;obtain ⟨⟨aH,bt⟩,cI⟩:=ad;refine ⟨cP,aa,aH,fun k ok aD=>?_,fun aT=>?_,fun jW aT=>?_,fun jW ae3=>?_⟩
 . obtain ⟨mk,bK,bT⟩:=qo bt k ok (by simpa using aD);simp only [Nat.zero_add] at bT;exact ⟨mk,bK,bT⟩
 . rw [show Nat.blt (posOf aE i) cu=true from by rw [Nat.blt_eq];exact aT] at cI;simp only [cond_true,Bool.and_eq_true,Bool.not_eq_true',Bool.or_eq_true] at cI;refine ⟨cI.1.1,cI.1.2,fun az he=>?_⟩;rcases cI.2 with (h | h) | h
   . rw [az] at h;cases h
   . rw [he] at h;cases h
   . cases j0:o.op<;>rw [j0] at h<;>simp only at h<;>first
      | (cases h;done)
      | exact ⟨_,_,rfl⟩
 . rw [show Nat.blt (posOf aE i) cu=false from by rw [<-Bool.not_eq_true,Nat.blt_eq];exact jW,show Nat.blt (posOf aE i) cx=true from by rw [Nat.blt_eq];exact aT] at cI;simp only [cond_true,cond_false] at cI;cases aV:lJ o with
   | none=>rw [aV] at cI;cases cI
   | some A=>rw [aV] at cI;exact ⟨A,rfl,Nat.eq_of_beq_eq_true cI⟩
 . rw [show Nat.blt (posOf aE i) cu=false from by rw [<-Bool.not_eq_true,Nat.blt_eq];exact jW,show Nat.blt (posOf aE i) cx=false from by rw [<-Bool.not_eq_true,Nat.blt_eq];exact ae3] at cI;simp only [cond_false,Bool.and_eq_true,Bool.not_eq_true'] at cI;exact cI
theorem aj1 {order:List Nat} {es:List eS} {cu:Nat} {b:aO} {ji:bB} {A:xM} (h:FV ops order es cu=some (b,ji,A)):
 ∃e i o,es[cu]? =some e/\order[cu]? =some i/\ops[i]? =some o/\lJ o=some A/\e.r=ji:=by
 unfold FV at h;cases he:es[cu]? with
 | none=>rw [he] at h;cases h
 | some e=>
   rw [he] at h;simp only at h;cases aq:order[cu]? with
   | none=>rw [aq] at h;cases h
   | some i=>
     rw [aq] at h;simp only at h;cases aX:ops[i]? with
     | none=>rw [aX] at h;cases h
     | some o=>
       rw [aX] at h;simp only at h;cases aV:lJ o with
       | none=>rw [aV] at h;cases h
       | some j_=>
         rw [aV] at h;simp only at h;cases hm:(bQ j_.m).run (dq e.r (b2 ops o))<;>rw [hm] at h<;>simp only at h<;>try (cases h;done)
         simp only [Option.some.injEq,Prod.mk.injEq] at h;obtain ⟨_,ad,rfl⟩:=h;exact ⟨e,i,o,rfl,rfl,aX,aV,ad⟩
theorem Ut {r:bB} {b:aO} {f:Nat->V × V} (aB:∀i m,kP ops r b i m->f i=(m.k,m.v)):∀{is:List Nat} {ms:List cE},px (fun i (m:cE)=>∃cj,kP ops r b i cj/\m.k=cj.k/\m.v=cj.v) is ms->ms.map (fun m=>(m.k,m.v))=is.map f
 | _,_,.nil=>rfl
 | _,_,.cons (a:=i) (b:=m) a8 au=>by obtain ⟨cj,aa,ad,aH⟩:=a8;simp only [List.map_cons,Ut aB au,aB i cj aa,ad,aH]
theorem zE {n:Nat} {order aE:List Nat} (gY:lT n order aE=true) {p i:Nat} (h:order[p]? =some i):posOf aE i=p/\i<n:=by unfold lT at gY;simp only [Bool.and_eq_true,Nat.beq_eq] at gY;obtain ⟨_,ad,_,bt⟩:=gY;have:=uA bt h;rw [Nat.zero_add] at this;refine ⟨by unfold posOf;rw [this];rfl,?_⟩;have:=(List.getElem?_eq_some_iff.1 this).1;omega
theorem akT {l:List Nat} {f:Nat->Nat} (h:∀p i,l[p]? =some i->f i=p):l.Nodup:=by rw [List.Nodup,List.pairwise_iff_getElem];intro i j aq a6 mO he;have aa:=h i _ (List.getElem?_eq_getElem aq);have ad:=h j _ (List.getElem?_eq_getElem a6);rw [he,ad] at aa;omega
theorem px.left {α β:Type} {R:α->β->Prop}:∀{eD:List α} {fe:List β},px R eD fe->∀x ∈ eD,∃y ∈ fe,R x y
 | _,_,.nil,x,h=>by simp at h
 | _,_,.cons a8 au,x,h=>by
   rcases List.mem_cons.1 h with rfl | h
   . exact ⟨_,by simp,a8⟩
   . obtain ⟨y,aa,ad⟩:=au.left x h;exact ⟨y,by simp [aa],ad⟩
theorem ag1 {o:Oper} (h:k7 o=true):e0 P o.op=true/\gR o=false:=by
 unfold k7 at h;unfold gR;cases aX:o.op<;>rw [aX] at h<;>simp only at h<;>first
  | (cases h;done)
  | exact ⟨rfl,rfl⟩
theorem anV {pre σ post:List Nat} (oV:(pre++(σ++post)).Nodup) (k q:Nat):(pre[q]? =some k->(pre++(σ++post)).idxOf k=q)/\(σ[q]? =some k->(pre++(σ++post)).idxOf k=pre.length+q)/\(post[q]? =some k->(pre++(σ++post)).idxOf k=pre.length+σ.length+q):=by
 refine ⟨fun h=>zc oV ?_,fun h=>zc oV ?_,fun h=>zc oV ?_⟩
 . have:=(List.getElem?_eq_some_iff.1 h).1;rw [List.getElem?_append_left this];exact h
 . have:=(List.getElem?_eq_some_iff.1 h).1;rw [List.getElem?_append_right (by omega),Nat.add_sub_cancel_left,List.getElem?_append_left this];exact h
 . rw [List.getElem?_append_right (by omega),List.getElem?_append_right (by omega)];rw [show pre.length+σ.length+q-pre.length-σ.length=q from by omega];exact h
theorem aj4 {rd:Option Nat} {D:List Deferred} {ay:Fr} {calls:Nat->dJ} {es:List eS} {bA:bB} {a8:ah} {cZ:bB} {aB:ah} {eu order aE:List Nat} (bH:eF P) (cU:∀i,gW P (calls i)) (dB:∀i,hb P (calls i))
 (C:Cert P ar ops calls es bA a8 cZ aB eu order aE ops.size ops.size true) {gJ:Env} {Q:Exit->Act->World->Prop}
 (cO:∀aw bs w',gJ.le aw->RegRel0 aw ar cZ bs->bs.defers=D->bf ay aw aB w'->Q .normal bs w') {qC:List Nat}
 (cY:∀i k,ml ops i=true->ml ops k=true->posOf aE k<posOf aE i->∀a b,qC=a++i::b->k ∈ a):
 ∀(fuel t:Nat) (listed:Array Bool) (done:List Nat) (a:Act) (w:World),qC=done++Region.linearise.go .any ops fuel t listed []->(∀k,k<ops.size->(listed.getD k false=true↔k ∈ done))->
  (List.range ops.size).countP (fun i=>!listed.getD i false)<=fuel->qq P ay ar ops es bA aB eu aE gJ ops.size D listed a w->wpOpsIn (ct rd) 0 P ops Q (Region.linearise.go .any ops fuel t listed []) a w:=by
 have iu:∀i o,ops[i]? =some o->mq i o=true:=fun i o h=>by obtain ⟨_,_,ad,_⟩:=C.kC i o h;exact ad
 have fin:∀(listed:Array Bool) (a:Act) (w:World),(∀k,k<ops.size->listed.getD k false=true)->qq P ay ar ops es bA aB eu aE gJ ops.size D listed a w->Q .normal a w:=by intro listed a w eb I;obtain ⟨aw,g1,g2,g3,g4⟩:=Q0 C (Nat.le_refl _) I fun k aD _=>eb k aD;exact cO aw a w g1 g2 g3 g4
 intro fuel
 induction fuel with
 | zero=>
   intro t listed done a w nR KB aC I;have a8:(List.range ops.size).countP (fun i=>!listed.getD i false)=0:=by omega
   rw [List.countP_eq_zero] at a8;exact fin listed a w (fun k aD=>by simpa using a8 k (List.mem_range.2 aD)) I
 | succ fuel bd=>
   intro t listed done a w nR KB aC I;rw [go_succ] at nR ⊢;cases aG:w9 ops t listed with
   | none=>exact fin listed a w (fun k aD=>zH iu I.sH (V_ aG) k aD) I
   | some i=>
     rw [aG] at nR;simp only at nR ⊢;obtain ⟨i1,i2⟩:=w_ I.sH (ML aG);have az:i<listed.size:=by rw [I.sH];exact i1
     have ap1:=count_set I.sH i1 i2;rw [wpOpsIn_cons];refine Q_ bH cU dB C I (ML aG) (C.ia i i1).1 (fun _ o k ok cv we E4 afi aT=>?_) (fun bs w' HM=>bd _ _ (done++[i]) bs w' (by rw [List.append_assoc];exact nR) (fun k aD=>?_) (by omega) HM) (fun _ _ _ _ _ _ _ h=>absurd h (Nat.lt_irrefl _))
     . have aD:k<ops.size:=(Array.getElem?_eq_some_iff.1 E4).1;exact (KB k aD).2 (cY i k (by unfold ml;rw [cv];exact we) (by unfold ml;rw [E4];exact afi) aT _ _ nR)
     . rw [fO az,KB k aD,List.mem_append,List.mem_singleton];exact Or.comm
def JC (ops:Array Oper) (r:bB) (b:aO) (i:Nat):V × V:=
 match ops[i]? with
 | some o=>(match ug ops r b o with
   | some m=>(m.k,m.v)
   | none=>(.bad,.bad))
 | none=>(.bad,.bad)
theorem Rj {r:bB} {b:aO} {i:Nat} {m:cE} (h:kP ops r b i m):JC ops r b i=(m.k,m.v):=by obtain ⟨o,aa,ad⟩:=h;unfold JC;rw [aa];simp only [ad]
theorem Uu {r:bB} {b:aO}:∀{is:List Nat} {ms:List cE},px (kP ops r b) is ms->ms.map (fun m=>(m.k,m.v))=is.map (JC ops r b)
 | _,_,.nil=>rfl
 | _,_,.cons a8 au=>by simp only [List.map_cons,Uu au,Rj a8]
theorem aj5 {rd:Option Nat} {ay:Fr} {E:Env} {h:ah} {w:World} {id:Nat} (c6:P.follows .mixedOrders=true) (bH:eF P) (cU:gW P call) (dB:hb P call) {r:bB} {a:Act} {order aE:List Nat} {cu cx:Nat} (gY:lT ops.size order aE=true)
 {Q:Exit->Act->World->Prop} (af:nD ay E ar (Q .normal) Q (LF P ar ops order aE cu cx (fD P ar ops (hs ops order)) call r h)) (k:fs E ar r a) (s:bf ay E h w):(Code.region id ops true).wpIn (ct rd) 0 P Q a w:=by
 unfold LF at af;cases cV:(fD P ar ops (hs ops order)).run call r h with
 | fail=>rw [cV] at af;exact af.elim
 | cM _ _ _ _ _=>rw [cV] at af;exact af.elim
 | ok es eN bk=>
 rw [cV] at af;simp only at af;cases mS:FV ops order es cu with
 | none=>rw [mS] at af;exact af.elim
 | some x=>
 obtain ⟨b,ji,A⟩:=x;rw [mS] at af;simp only at af;cases kg:(cg es bk cu).get b<;>rw [kg] at af<;>try (exact False.elim af)
 rename_i acQ r1;cases acQ with
 | cons _ _=>exact False.elim af
 | nil=>
 simp only at af;cases yQ:wF ops ji b ((order.drop cu).take (cx-cu)) with
 | none=>rw [yQ] at af;exact af.elim
 | some ms=>
 rw [yQ] at af;simp only at af;cases aC:(B3 P ops aE cu cx A.t&&(AE (uj P A.t) ms&&(B6 P ops es (cg es bk cu) b call ar (order.take cu) 0&&A5 ((bQ A.m).run eN) (.map b)))) with
 | false=>rw [aC] at af;exact af.elim
 | true=>
 rw [aC] at af;simp only [cond_true] at af;simp only [Bool.and_eq_true] at aC;obtain ⟨E6,mK,eC,si⟩:=aC;have si:=JF si;obtain ⟨kk,Vq,aqU⟩:=Vm gY;have KN:order.Nodup:=akT fun p i h=>(zE gY h).1;obtain ⟨cz,i0,iT,Ke,wc,afE,A_,aeY⟩:=aj1 mS;obtain ⟨al_,-,-,-⟩:=uS cV;have hlen:es.length=ops.size:=by rw [al_,qb,kk]
 have jc:cu<ops.size:=by rw [<-kk];exact (List.getElem?_eq_some_iff.1 wc).1
 have kC:=aj0 E6;generalize q5:order.take cu=pre at eC;generalize we:(order.drop cu).take (cx-cu)=ins at yQ;generalize SU:(order.drop cu).drop (cx-cu)=post;have p0:order=pre++(ins++post):=by rw [<-q5,<-we,<-SU,List.take_append_drop,List.take_append_drop]
 have yT:pre.length=cu:=by rw [<-q5,List.length_take];omega
 have aqa:cu<cx:=by
  obtain ⟨wk,_⟩:=zE gY wc;rcases Nat.lt_or_ge cu cx with h | h
  . exact h
  . exfalso;obtain ⟨_,_,_,_,_,_,f3⟩:=kC i0 iT afE;obtain ⟨ai,_⟩:=f3 (by omega) (by omega);rw [(FI (P:=P) A_).2.1] at ai;cases ai
 have afd:ins.length=cx-cu\/post=[]:=by
  rcases Nat.lt_or_ge (cx-cu) (order.drop cu).length with h | h
  . left;rw [<-we,List.length_take];omega
  . right;rw [<-SU];exact List.drop_eq_nil_of_le h
 have IH:∀q i,pre[q]? =some i->posOf aE i=q/\i<ops.size/\q<cu:=by intro q i h;have aA:=(List.getElem?_eq_some_iff.1 h).1;obtain ⟨aa,ad⟩:=zE gY (p:=q) (i:=i) (by rw [p0,List.getElem?_append_left aA];exact h);exact ⟨aa,ad,by omega⟩
 have IF:∀q i,ins[q]? =some i->posOf aE i=cu+q/\i<ops.size/\cu+q<cx:=by
  intro q i h;have aA:=(List.getElem?_eq_some_iff.1 h).1;obtain ⟨aa,ad⟩:=zE gY (p:=cu+q) (i:=i) (by rw [p0,List.getElem?_append_right (by omega),yT,Nat.add_sub_cancel_left,List.getElem?_append_left aA];exact h);refine ⟨aa,ad,?_⟩;have:ins.length<=cx-cu:=by rw [<-we,List.length_take];omega
  omega
 have IG:∀q i,post[q]? =some i->posOf aE i=cu+ins.length+q/\i<ops.size/\ins.length=cx-cu:=by
  intro q i h;have az:ins.length=cx-cu:=by
   rcases afd with ab | ab
   . exact ab
   . rw [ab] at h;simp at h
  obtain ⟨aa,ad⟩:=zE gY (p:=cu+ins.length+q) (i:=i) (by rw [p0,List.getElem?_append_right (by omega),List.getElem?_append_right (by omega),yT,show cu+ins.length+q-cu-ins.length=q from by omega];exact h);exact ⟨aa,ad,az⟩
 have XI:∀i,i<ops.size->(∃q:Nat,pre[q]? =some i)\/(∃q:Nat,ins[q]? =some i)\/∃q:Nat,post[q]? =some i:=by
  intro i aq;have hm:i ∈ order:=List.mem_of_getElem? (Vq i aq).2;rw [p0,List.mem_append,List.mem_append] at hm;rcases hm with h | h | h
  . exact .inl (List.mem_iff_getElem?.1 h)
  . exact .inr (.inl (List.mem_iff_getElem?.1 h))
  . exact .inr (.inr (List.mem_iff_getElem?.1 h))
 have Mn:∀i o,i ∈ pre->ops[i]? =some o->k7 o=false/\ec P o=false/\(looks o.op=true->e0 P o.op=false->∃t x,o.op=.load t x):=by intro i o aq aX;obtain ⟨q,aA⟩:=List.mem_iff_getElem?.1 aq;obtain ⟨aa,ad,aH⟩:=IH q i aA;obtain ⟨_,_,_,_,f1,_,_⟩:=kC i o aX;exact f1 (by omega)
 have BQ:∀i,i ∈ ins->∃o j_,ops[i]? =some o/\lJ o=some j_/\j_.t=A.t:=by intro i aq;obtain ⟨q,aA⟩:=List.mem_iff_getElem?.1 aq;obtain ⟨aa,ad,aH⟩:=IF q i aA;obtain ⟨_,_,_,_,_,f2,_⟩:=kC i _ (Array.getElem?_eq_getElem ad);obtain ⟨j_,g1,g2⟩:=f2 (by omega) (by omega);exact ⟨_,j_,Array.getElem?_eq_getElem ad,g1,g2⟩
 have Cw:∀i o,i ∈ post->ops[i]? =some o->e0 P o.op=false/\looks o.op=false:=by intro i o aq aX;obtain ⟨q,aA⟩:=List.mem_iff_getElem?.1 aq;obtain ⟨aa,ad,aH⟩:=IG q i aA;obtain ⟨_,_,_,_,_,_,f3⟩:=kC i o aX;exact f3 (by omega) (by omega)
 have Ll:∀i,i<ops.size->(ml ops i=true↔i ∈ ins):=by
  intro i aq;have cv:ops[i]? =some ops[i]:=Array.getElem?_eq_getElem aq;constructor
  . intro h;unfold ml at h;rw [cv] at h;simp only at h;rcases XI i aq with ⟨q,aA⟩ | ⟨q,aA⟩ | ⟨q,aA⟩
    . rw [(Mn i _ (List.mem_of_getElem? aA) cv).1] at h;cases h
    . exact List.mem_of_getElem? aA
    . have:=(Cw i _ (List.mem_of_getElem? aA) cv).1;rw [(ag1 (P:=P) h).1] at this;cases this
  . intro h;obtain ⟨o,j_,g1,g2,_⟩:=BQ i h;unfold ml;rw [g1];exact (FI (P:=P) g2).1
 have KO:ins.Nodup:=by rw [p0] at KN;exact (List.nodup_append.1 (List.nodup_append.1 KN).2.1).1
 have BC:=cV;rw [p0,Ck,Ck] at BC;obtain ⟨hC,bD,aa,acR,sq,SW,oR⟩:=M9 _ _ BC;obtain ⟨qN,b3,ad,JG,lF,afT,ap5⟩:=M9 _ _ SW;obtain ⟨eD,-,-,-⟩:=uS sq;rw [qb,yT] at eD;obtain ⟨-,bW,bV,-⟩:=uS SW;have Sr:acR[0]? =some cz:=by rw [oR,List.getElem?_append_right (by omega),eD,Nat.sub_self] at Ke;exact Ke
 have afV:bD=ji:=by unfold eh at bV;rw [Sr] at bV;exact bV.symm.trans aeY
 have ae8:cg es bk cu=aa:=by unfold cg at bW ⊢;rw [Ke];rw [Sr] at bW;exact bW
 subst afV;rw [ae8] at kg eC;have sd:∀i ∈ ins,∃o j_ m,ops[i]? =some o/\lJ o=some j_/\(BW P j_.t=true/\uj P j_.t=uj P A.t)/\ug ops bD b o=some m/\∃v H1 cy,(cB P ar ops o).run call bD H1=.val v cy:=by
  intro i aq;obtain ⟨o,j_,g1,g2,g3⟩:=BQ i aq;obtain ⟨m,_,cb,g4,g5⟩:=(FG yQ).left i aq;rw [g1] at g4;cases g4;refine ⟨o,j_,m,g1,g2,⟨by rw [g3];unfold B3 at E6;rw [Bool.and_eq_true] at E6;exact E6.1,by rw [g3]⟩,g5,TB (hs ops ins) (fun dH mV=>?_) lF o ?_⟩
  . obtain ⟨q,aA⟩:=List.mem_iff_getElem?.1 mV;have t':q<ins.length:=by rw [<-qb (ops:=ops)];exact (List.getElem?_eq_some_iff.1 aA).1
    obtain ⟨wX,hl,BU,wG,_⟩:=BQ _ (List.getElem_mem t');have:=nf (List.getElem?_eq_getElem t') BU;rw [aA] at this;cases this;exact (BP wG).2.1
  . obtain ⟨q,aA⟩:=List.mem_iff_getElem?.1 aq;exact List.mem_of_getElem? (nf aA g1)
 have ES:=O7 (FG yQ) KO mK;obtain ⟨apI,aqH,apB,mB,JO,apL,apM,adr,_,apN⟩:=Lo sd ES ins [] [] r1 aa (fun i aq=>aq) (fun i aq=>by simp at aq) (by simpa using KO) (fun m hm=>by simp at hm) kg;rw [lF] at JO;simp only [qs.ok.injEq] at JO;obtain ⟨-,afS,aeh⟩:=JO;subst afS aeh;obtain ⟨Kt,afR⟩:=V3 (hs ops post) (fun dH mV=>by
  obtain ⟨q,aA⟩:=List.mem_iff_getElem?.1 mV;have t':q<post.length:=by rw [<-qb (ops:=ops)];exact (List.getElem?_eq_some_iff.1 aA).1
  obtain ⟨_,SA,_⟩:=IG q _ (List.getElem?_eq_getElem t');have:=nf (List.getElem?_eq_getElem t') (Array.getElem?_eq_getElem SA);rw [aA] at this;cases this;exact Cw _ _ (List.getElem_mem t') (Array.getElem?_eq_getElem SA)) afT
 subst Kt;refine wpIn_region_draw fun t=>?_;simp only [Region.schedule,c6,Bool.true_or,if_true];have iu:∀i o,ops[i]? =some o->mq i o=true:=fun i o h=>by obtain ⟨_,_,ad,_⟩:=kC i o h;exact ad
 have de:∀k,¬(Array.replicate ops.size false).getD k false=true:=by
  intro k;rw [tK,Array.getElem?_replicate]
  split<;>simp
 obtain ⟨s1,s2,np⟩:=R0 (ops:=ops) iu ops.size t (Array.replicate ops.size false) (by simp) (Nat.le_trans List.countP_le_length (by simp));change wpOpsIn (ct rd) 0 P ops Q (Region.linearise.go .any ops ops.size t (Array.replicate ops.size false) []) a {w with drawn:=w.drawn+1};generalize nR:Region.linearise.go .any ops ops.size t (Array.replicate ops.size false) []=qC at s1 s2 np;generalize o2:qC.filter (ml ops)=σ;have LQ:∀k,k ∈ σ↔k ∈ ins:=by
  intro k;rw [<-o2,List.mem_filter];constructor
  . rintro ⟨g1,g2⟩;exact (Ll k (s2 k g1).1).1 g2
  . intro g;obtain ⟨q,aA⟩:=List.mem_iff_getElem?.1 g;have aD:=(IF q k aA).2.1;refine ⟨?_,(Ll k aD).2 g⟩;rcases np k aD with h | h
    . exact absurd h (de k)
    . exact h
 have SL:σ.Nodup:=by rw [<-o2];exact s1.filter _
 have KY:σ.Perm ins:=(List.perm_ext_iff_of_nodup SL KO).2 LQ;have To:σ.length=ins.length:=KY.length_eq;have lE:(pre++(σ++post)).Perm order:=by rw [p0];exact (KY.append_right post).append_left pre
 have KP:(pre++(σ++post)).Nodup:=lE.nodup_iff.2 KN;have Bp:(pre++(σ++post)).length=ops.size:=by rw [lE.length_eq,kk]
 have DN:=anV KP;generalize afL:(List.range ops.size).map (fun k=>(pre++(σ++post)).idxOf k)=kL;have yS:∀k,k<ops.size->posOf kL k=(pre++(σ++post)).idxOf k:=by intro k aD;rw [<-afL];unfold posOf;rw [List.getElem?_map,List.getElem?_range aD];rfl
 have Cr:∀i,i<ops.size->i ∈ pre->posOf kL i=posOf aE i/\posOf aE i<cu:=by intro i aq hm;obtain ⟨q,aA⟩:=List.mem_iff_getElem?.1 hm;obtain ⟨g1,_,g3⟩:=IH q i aA;rw [yS i aq,(DN i q).1 aA,g1];exact ⟨rfl,g3⟩
 have Cq:∀i,i<ops.size->i ∈ ins->∃q:Nat,σ[q]? =some i/\posOf kL i=cu+q/\q<ins.length/\cu<=posOf aE i/\posOf aE i<cu+ins.length:=by intro i aq hm;obtain ⟨q,aA⟩:=List.mem_iff_getElem?.1 ((LQ i).2 hm);obtain ⟨ep,nY⟩:=List.mem_iff_getElem?.1 hm;obtain ⟨g1,_,g3⟩:=IF ep i nY;have:=(List.getElem?_eq_some_iff.1 aA).1;have:=(List.getElem?_eq_some_iff.1 nY).1;exact ⟨q,aA,by rw [yS i aq,(DN i q).2.1 aA,yT],by omega,by omega,by omega⟩
 have Mg:∀i,i<ops.size->i ∈ post->posOf kL i=posOf aE i/\cu+ins.length<=posOf aE i:=by intro i aq hm;obtain ⟨q,aA⟩:=List.mem_iff_getElem?.1 hm;obtain ⟨g1,_,_⟩:=IG q i aA;rw [yS i aq,(DN i q).2.2 aA,g1,To,yT];exact ⟨rfl,by omega⟩
 have cls:∀i,i<ops.size->i ∈ pre\/i ∈ ins\/i ∈ post:=by
  intro i aq;rcases XI i aq with ⟨q,aA⟩ | ⟨q,aA⟩ | ⟨q,aA⟩
  . exact .inl (List.mem_of_getElem? aA)
  . exact .inr (.inl (List.mem_of_getElem? aA))
  . exact .inr (.inr (List.mem_of_getElem? aA))
 obtain ⟨vI,aqI,Jd,Ag,RO,adu,adv,adw,ady,adx⟩:=Lo sd ES σ [] [] r1 aa (fun i aq=>(LQ i).1 aq) (fun i aq=>by simp at aq) (by simpa using SL) (fun m hm=>by simp at hm) kg;obtain ⟨yj,afU⟩:=afR Ag;have S2:=M' _ _ sq (M' _ _ RO afU);rw [<-Ck,<-Ck] at S2;obtain ⟨aju,-,-,-⟩:=uS RO;rw [qb,To] at aju;obtain ⟨b6,z2,z3,z4⟩:=uS S2;rw [qb,Bp] at b6;have Vr:∀k,k<ops.size->posOf kL k<ops.size/\(pre++(σ++post))[posOf kL k]? =some k:=by intro k aD;have hm:k ∈ pre++(σ++post):=lE.mem_iff.2 (List.mem_of_getElem? (Vq k aD).2);obtain ⟨q,aA⟩:=List.mem_iff_getElem?.1 hm;have KZ:=zc KP aA;rw [yS k aD,KZ];have:=(List.getElem?_eq_some_iff.1 aA).1;exact ⟨by omega,aA⟩
 have alB:∀p,p<ops.size->∃i,i<ops.size/\posOf kL i=p:=by intro p af;have aA:(pre++(σ++post))[p]? =some ((pre++(σ++post))[p]'(by omega)):=List.getElem?_eq_getElem _;have hm:(pre++(σ++post))[p]'(by omega) ∈ order:=lE.mem_iff.1 (List.getElem_mem _);obtain ⟨q,yU⟩:=List.mem_iff_getElem?.1 hm;have aT:=(zE gY yU).2;exact ⟨_,aT,by rw [yS _ aT];exact zc KP aA⟩
 have QC:∀j o,ops[j]? =some o->ec P o=true->j ∈ ins:=by
  intro j o aX ma;rcases cls j (Array.getElem?_eq_some_iff.1 aX).1 with h | h | h
  . rw [(Mn j o h aX).2.1] at ma;cases ma
  . exact h
  . unfold ec at ma;rw [(Cw j o h aX).1] at ma;cases ma
 have Lm:∀k ok,k ∈ ins->ops[k]? =some ok->ok.dst=none/\k7 ok=true:=by intro k ok aD bF;obtain ⟨o,j_,g1,g2,_⟩:=BQ k aD;rw [bF] at g1;cases g1;exact ⟨(BP g2).2.1,(FI (P:=P) g2).1⟩
 have Z9:∀st,st=ops.size\/(∃k,k<ops.size/\k ∈ ins/\st=posOf kL k)->∀c,b≠c->(cg (hC++(vI++yj)) Ag st).get c=aa.get c:=by
  rintro st (rfl | ⟨k,aD,gP,rfl⟩) c aC
  . unfold cg;rw [List.getElem?_eq_none (by omega)];exact adv c aC
  . obtain ⟨q,_,g2,g3,_⟩:=Cq k aD gP;have K0:q<vI.length:=by omega
    unfold cg;rw [g2,List.getElem?_append_right (by omega),eD,Nat.add_sub_cancel_left,List.getElem?_append_left K0,List.getElem?_eq_getElem K0];exact ady _ (List.getElem_mem K0) c aC
 have C:Cert P ar ops (fun _=>call) (hC++(vI++yj)) r h eN Ag (hG P kL 0 ops.toList) (pre++(σ++post)) kL ops.size ops.size true:=by
  refine ⟨b6,Nat.le_refl _,Nat.le_refl _,Vr,alB,z2,z3,?_,?_,?_,?_,?_,?_,fun h=>absurd h (Nat.lt_irrefl _),fun h=>absurd h (Nat.lt_irrefl _)⟩
  . intro i o aX _;exact z4 _ o (nf (Vr i (Array.getElem?_eq_some_iff.1 aX).1).2 aX)
  . intro i o cv;obtain ⟨cP,f1,f2,f3,_⟩:=kC i o cv;refine ⟨cP,f1,f2,fun _ k ok bF _=>?_⟩;obtain ⟨mk,f4,f5⟩:=f3 k ok bF;have aq:i<ops.size:=(Array.getElem?_eq_some_iff.1 cv).1;have aD:k<ops.size:=(Array.getElem?_eq_some_iff.1 bF).1;refine ⟨mk,f4,?_,fun he ma aT=>?_⟩
    . by_cases gP:k ∈ ins
      . unfold pc;rw [(Lm k ok gP bF).1];simp
      . have ae:Nat.blt (posOf kL k) (posOf kL i)=Nat.blt (posOf aE k) (posOf aE i):=by
         rw [Bool.eq_iff_iff,Nat.blt_eq,Nat.blt_eq];rcases cls k aD with aC | aC | aC
         . obtain ⟨bN,a2⟩:=Cr k aD aC;rcases cls i aq with bb | bb | bb
           . obtain ⟨cn,ch⟩:=Cr i aq bb;omega
           . obtain ⟨q,_,ch,gk,l8,l9⟩:=Cq i aq bb;omega
           . obtain ⟨cn,ch⟩:=Mg i aq bb;omega
         . exact absurd aC gP
         . obtain ⟨bN,a2⟩:=Mg k aD aC;rcases cls i aq with bb | bb | bb
           . obtain ⟨cn,ch⟩:=Cr i aq bb;omega
           . obtain ⟨q,_,ch,gk,l8,l9⟩:=Cq i aq bb;omega
           . obtain ⟨cn,ch⟩:=Mg i aq bb;omega
        rw [ae];exact f5
    . have gP:=QC k ok bF ma;obtain ⟨aq0,_,ch,gk,l8,l9⟩:=Cq k aD gP;rcases cls i aq with bb | bb | bb
      . obtain ⟨bN,a2⟩:=Cr i aq bb;omega
      . exact .inr ⟨rfl,(Lm i o bb cv).2,(Lm k ok gP bF).2⟩
      . rw [(Cw i o bb cv).1] at he;cases he
  . have:=FR (P:=P) (aE:=kL) (l:=ops.toList) (i:=0);simpa using this
  . intro j o g1 g2;have:=zl (P:=P) (aE:=kL) (i:=0) (j:=j) (l:=ops.toList) (o:=o) (by simpa using g1) g2;simpa using this
  . intro st cL;rcases uo cL with h | ⟨j,o,g1,g2,g3⟩
    . exact .inl (.inl (by simpa using h))
    . exact .inr ⟨j,o,by simpa using g1,g2,by simpa using g3⟩
  . intro j o q1 az he _;have a6:j<ops.size:=(Array.getElem?_eq_some_iff.1 q1).1;have nU:j ∈ pre:=by
     rcases cls j a6 with bb | bb | bb
     . exact bb
     . obtain ⟨cb,j_,g1,g2,_⟩:=BQ j bb;rw [q1] at g1;cases g1;rw [(FI (P:=P) g2).2.1] at he;cases he
     . rw [(Cw j o bb q1).2] at az;cases az
    obtain ⟨s7,NC,j0⟩:=(Mn j o nU q1).2.2 az he;obtain ⟨q,aA⟩:=List.mem_iff_getElem?.1 nU;obtain ⟨bN,_,a3⟩:=IH q j aA;obtain ⟨e,c,off,ab,dT,e3,y3,y4,z1⟩:=Uk eC q j o s7 NC aA q1 j0;have aeV:(hC++(vI++yj))[posOf kL j]? =some e:=by rw [(Cr j a6 nU).1,bN,List.getElem?_append_left (by omega)];rw [Nat.zero_add,oR,List.getElem?_append_left (by omega)] at dT;exact dT
    refine ⟨e,aeV,fun st cL _=>⟨call,_,⟨cU,dB⟩,acx j0 y4 z1 e3 _ (Z9 st ?_ c fun h=>y3 h.symm)⟩⟩;rcases uo cL with h | ⟨bo,cb,g1,g2,g3⟩
    . exact .inl (by simpa using h)
    . have Fb:ops[bo]? =some cb:=by simpa using g1
      exact .inr ⟨bo,(Array.getElem?_eq_some_iff.1 Fb).1,QC bo cb Fb g2,by simpa using g3⟩
 have lA:∀(aw:Env) (bs:Act),E.le aw->bs.defers=a.defers->∀(bu:bB),T.get .bad eV bu=T.get .bad eV r->lo aw (T.get .bad eV bu) bs.defers:=fun aw bs he bb bu so=>by rw [so,bb];exact k.defers.mono he
 have EW:T.get .bad eV eN=T.get .bad eV r:=by have:=C.Jt ops.size (Nat.le_refl _);have KQ:(hC++(vI++yj))[ops.size]? =none:=List.getElem?_eq_none (by omega);unfold eh at this;rw [KQ] at this;exact this
 have ki:Holds ay ay (hC++(vI++yj)) Ag kL (kb ops (hC++(vI++yj)) Ag kL (Array.replicate ops.size false) 0):=
  ⟨rfl,fun _ _=>rfl,fun k aD=>(by obtain ⟨_,_,_,_,a8⟩:=aD;omega),fun k bo aD=>(by obtain ⟨_,_,_,_,a8⟩:=aD;omega)⟩
 obtain ⟨e1,ev,g1,g2,g3,g4,g5,g6⟩:=C.advance ops.size 0 (by omega) (fun k o _ _ _=>de k) ay ki (E:=E) (w:={w with drawn:=w.drawn}) (by rw [C.a8];exact s.same rfl rfl rfl rfl);rw [<-nR];refine aj4 (ay:=ay) bH (fun _=>cU) (fun _=>dB) C (gJ:=E) (D:=a.defers) (qC:=qC) (fun aw bs w' ao ax aL bY=>?_) (fun i k aq aD aT bs bI vT=>?_) ops.size t _ [] a _ (by rw [nR];rfl) (fun k _=>⟨fun h=>absurd h (de k),fun h=>by simp at h⟩) (Nat.le_trans List.countP_le_length (by simp)) ?_
 . refine af aw bs w' ao ⟨ax,lA aw bs ao aL eN EW⟩ ?_;have kl:=dA ax A.m;rw [si] at kl;simp only [Rel] at kl;obtain ⟨p,aef,_⟩:=kl;rw [adr,<-adw];refine bY.forget adu aef ?_;rw [List.nil_append,Uu (FG yQ),Ut (fun i m h=>Rj h) adx];exact KY.symm.map _
 . have nT:i<ops.size:=by
    unfold ml at aq;cases aX:ops[i]? with
    | none=>rw [aX] at aq;cases aq
    | some o=>exact (Array.getElem?_eq_some_iff.1 aX).1
   have Kw:k<ops.size:=by
    unfold ml at aD;cases aX:ops[k]? with
    | none=>rw [aX] at aD;cases aD
    | some o=>exact (Array.getElem?_eq_some_iff.1 aX).1
   have gP:=(Ll k Kw).1 aD;have Tn:σ=bs.filter (ml ops)++i::bI.filter (ml ops):=by rw [<-o2,vT,List.filter_append,List.filter_cons_of_pos aq]
   have j1:posOf kL i=cu + (bs.filter (ml ops)).length:=by rw [yS i nT,(DN i (bs.filter (ml ops)).length).2.1 (by rw [Tn,List.getElem?_append_right (Nat.le_refl _),Nat.sub_self];rfl),yT]
   obtain ⟨q,aA,Fe,_⟩:=Cq k Kw gP;have t':q < (bs.filter (ml ops)).length:=by omega
   rw [Tn,List.getElem?_append_left t'] at aA;exact (List.mem_filter.1 (List.mem_of_getElem? aA)).1
 . refine ⟨by simp,k.size,rfl,fun bo aD=>absurd aD (de bo),fun bo o e aD=>absurd aD (de bo),E,e1,ev,Env.le.refl E,g1,g3,fun bo o aa ad=>⟨fun h=>absurd h (de bo),fun h=>by have:=g4 bo o aa ad (Nat.zero_le _);omega⟩,
    fun bo o _ _ h=>absurd h (de bo),g5,?_,fun t au=>.inr ⟨fun bo o aD=>absurd aD (de bo),k.av t au⟩⟩
   exact g6.same rfl rfl rfl rfl
theorem acA {rd:Option Nat} {ay:Fr} {E:Env} {h:ah} {w:World} {id:Nat} (c6:P.follows .mixedOrders=true) (bH:eF P) (cU:gW P call) (dB:hb P call) {r:bB} {a:Act}
 {Q:Exit->Act->World->Prop} (af:nD ay E ar (Q .normal) Q ((Jq P ar ops).run call r h)) (k:fs E ar r a) (s:bf ay E h w):(Code.region id ops true).wpIn (ct rd) 0 P Q a w:=by
 unfold Jq at af;generalize Cm P ops=order at af;generalize Gu order 0 ops.toList=aE at af;unfold Q9 at af;cases aB:(lT ops.size order aE&&yc P ops aE) with
 | false=>
   rw [aB] at af;simp only [cond_false] at af;cases jz:(lT ops.size order aE&&CK P ops order aE) with
   | false=>
     rw [jz] at af;simp only [cond_false] at af;cases Kl:lT ops.size order aE with
     | false=>rw [Kl] at af;exact af.elim
     | true=>
       rw [Kl] at af;simp only [cond_true] at af;exact aj5 c6 bH cU dB Kl af k s
   | true=>
     rw [jz] at af;simp only [cond_true] at af;simp only [Bool.and_eq_true] at jz;exact acB c6 bH cU dB jz.1 jz.2 af k s
 | true=>
   rw [aB] at af;simp only [cond_true] at af;simp only [Bool.and_eq_true] at aB;obtain ⟨gY,gm⟩:=aB;unfold lT at gY;simp only [Bool.and_eq_true,Nat.beq_eq] at gY;obtain ⟨kk,mV,sj,sk⟩:=gY;have ia:∀k,k<ops.size->posOf aE k<ops.size/\order[posOf aE k]? =some k:=by
    intro k aD;have aF:aE[k]? =some (posOf aE k):=by unfold posOf;rw [List.getElem?_eq_getElem (by omega)];rfl
    have:=uA sj aF;rw [Nat.zero_add] at this;exact ⟨by have:=(List.getElem?_eq_some_iff.1 this).1;omega,this⟩
   have la:∀p,p<ops.size->∃i,i<ops.size/\posOf aE i=p:=by intro p af;have aF:order[p]? =some (order[p]'(by omega)):=List.getElem?_eq_getElem (by omega);have:=uA sk aF;rw [Nat.zero_add] at this;refine ⟨order[p]'(by omega),by have:=(List.getElem?_eq_some_iff.1 this).1;omega,?_⟩;unfold posOf;rw [this];rfl
   have M8:∀j o,ops[j]? =some o->ec P o=true->posOf aE j ∈ hG P aE 0 ops.toList:=fun j o aa ad=>by simpa using zl (aE:=aE) (i:=0) (j:=j) (l:=ops.toList) (by simpa using aa) ad
   have ank:ops.size ∈ hG P aE 0 ops.toList:=by simpa using FR (P:=P) (aE:=aE) (l:=ops.toList) (i:=0)
   have WR:∀N M,∀s ∈ hG P aE 0 ops.toList,(s=ops.size\/(s=N/\M=N))\/∃k o,ops[k]? =some o/\ec P o=true/\s=posOf aE k:=fun N M s aM=>by
    rcases uo aM with h | ⟨j,o,aa,ad,aH⟩
    . exact .inl (.inl (by simpa using h))
    . exact .inr ⟨j,o,by simpa using aa,ad,by simpa using aH⟩
   have St:∀i o,ops[i]? =some o->∃cP,(eI [] ops.toList)[i]? =some cP/\mq i o=true/\(posOf aE i<ops.size->
    ∀k ok,ops[k]? =some ok->posOf aE k<ops.size->∃mk,(eI [] ops.toList)[k]? =some mk/\pc i cP (b2 ops o) o.dst k mk ok (Nat.blt (posOf aE k) (posOf aE i))=true/\(e0 P o.op=true->ec P ok=true->posOf aE k<posOf aE i->fT cP k=true\/(false=true/\k7 o=true/\k7 ok=true))):=by
    intro i o aq;obtain ⟨cP,g1,g2,g3⟩:=Q8 gm i o aq;exact ⟨cP,g1,g2,fun _ k ok aD _=>by obtain ⟨mk,dT,e3,y3⟩:=g3 k ok aD;exact ⟨mk,dT,e3,fun a b c=>.inl (y3 a b c)⟩⟩
   have main:∀(q:C1),
    (∀es oS N,es.length=N->N<=ops.size->(∀i o,ops[i]? =some o->posOf aE i<N->∃e,es[posOf aE i]? =some e/\(cB P ar ops o).run call e.r e.h=.val e.v (cg es oS (posOf aE i+1)))->
      (N<ops.size->∃i0 iT,ops[i0]? =some iT/\posOf aE i0=N/\ec P iT=true)->q.run call es oS=true->∀j o,ops[j]? =some o->looks o.op=true->e0 P o.op=false->posOf aE j<N->∃e,es[posOf aE j]? =some e/\∀s ∈ hG P aE 0 ops.toList,
      sK P (eI [] ops.toList) ops.toList aE j (((eI [] ops.toList)[j]?).getD 0) s=true->∃ab,(cB P ar ops o).run call e.r (cg es oS s)=.val e.v ab)->
    nD ay E ar (Q .normal) Q (Eg ops order aE (fD P ar ops (hs ops order)) q call r h)->(Code.region id ops true).wpIn (ct rd) 0 P Q a w:=by
    intro q tR cV;unfold Eg at cV;cases cL:(fD P ar ops (hs ops order)).run call r h with
    | fail=>rw [cL] at cV;exact cV.elim
    | ok es eN bk=>
      rw [cL] at cV;simp only at cV;cases aA:q.run call es bk with
      | false=>rw [aA] at cV;exact cV.elim
      | true=>
        rw [aA] at cV;simp only [cond_true] at cV;obtain ⟨ao,ax,aL,bY⟩:=uS cL;have hlen:es.length=ops.size:=by rw [ao,qb,kk]
        have hS:∀i o,ops[i]? =some o->posOf aE i<ops.size->∃e,es[posOf aE i]? =some e/\(cB P ar ops o).run call e.r e.h=.val e.v (cg es bk (posOf aE i+1))/\eh es eN (posOf aE i+1)=(fK o.dst).run e.r e.v:=
         fun i o aX _=>bY _ o (nf (ia i (Array.getElem?_eq_some_iff.1 aX).1).2 aX)
        have C:Cert P ar ops (fun _=>call) es r h eN bk (hG P aE 0 ops.toList) order aE ops.size ops.size false:=
         ⟨hlen,Nat.le_refl _,Nat.le_refl _,ia,la,ax,aL,hS,St,ank,M8,WR _ _,
           fun j o aa ad aH bt=>by obtain ⟨e,g1,g2⟩:=tR es bk _ hlen (Nat.le_refl _) (fun i o aX aq=>by obtain ⟨e,b6,z2,_⟩:=hS i o aX aq;exact ⟨e,b6,z2⟩) (fun h=>by omega) aA j o aa ad aH bt;exact ⟨e,g1,fun s aM hm=>by obtain ⟨ab,g3⟩:=g2 s aM hm;exact ⟨_,ab,⟨cU,dB⟩,g3⟩⟩,
           fun h=>absurd h (Nat.lt_irrefl _),fun h=>absurd h (Nat.lt_irrefl _)⟩
        exact Js c6 bH cU dB k s C (fun _=>cV) (fun _ _ _ _ _ _ _ h=>absurd h (Nat.lt_irrefl _)) (fun h=>absurd h (Nat.lt_irrefl _))
    | cM es eN bk v ab=>
      rw [cL] at cV;simp only at cV;cases aA:(Mh ops order aE es.length&&q.run call es bk) with
      | false=>rw [aA] at cV;exact cV.elim
      | true=>
        rw [aA] at cV;simp only [cond_true] at cV;simp only [Bool.and_eq_true] at aA;obtain ⟨wm,aA⟩:=aA;obtain ⟨ax,aL,bY,iT,ee,fQ,iV⟩:=WS cL;have aT:es.length<ops.size:=by have:=(List.getElem?_eq_some_iff.1 ee).1;rw [qb,kk] at this;exact this
        obtain ⟨i0,wc,j1⟩:=la es.length aT;have cv:ops[i0]? =some ops[i0]:=Array.getElem?_eq_getElem wc;have p0:=(ia i0 wc).2;rw [j1] at p0;have afC:iT=ops[i0]:=by have:=nf p0 cv;rw [ee] at this;cases this;rfl
        subst afC;unfold Mh at wm;rw [p0] at wm;simp only at wm;obtain ⟨m0,KH,_⟩:=qo wm i0 ops[i0] (by simp);have Tm:∀k ok,ops[k]? =some ok->∃mk,(eI [] ops.toList)[k]? =some mk/\(es.length<posOf aE k->fT mk i0=true)/\(gR ok=true->posOf aE k<es.length->fT m0 k=true):=by
         intro k ok aD;obtain ⟨mk,b6,z2⟩:=qo wm k ok (by simpa using aD);simp only [Nat.zero_add,Bool.and_eq_true] at z2;refine ⟨mk,b6,fun aF=>?_,fun aV az=>?_⟩
         . have:=z2.1;rw [show Nat.blt es.length (posOf aE k)=true from by rw [Nat.blt_eq];exact aF] at this;exact this
         . have:=z2.2;rw [aV,show Nat.blt (posOf aE k) es.length=true from by rw [Nat.blt_eq];exact az,KH] at this;exact this
        have yD:ec P ops[i0]=true:=by obtain ⟨bS,bX⟩:=Ux (P:=P) fQ;unfold ec;rw [bS,bX];rfl
        have hS:∀i o,ops[i]? =some o->posOf aE i<es.length->∃e,es[posOf aE i]? =some e/\(cB P ar ops o).run call e.r e.h=.val e.v (cg es bk (posOf aE i+1))/\eh es eN (posOf aE i+1)=(fK o.dst).run e.r e.v:=
         fun i o aX az=>bY _ o az (nf (ia i (Array.getElem?_eq_some_iff.1 aX).1).2 aX)
        have C:Cert P ar ops (fun _=>call) es r h eN bk (hG P aE 0 ops.toList) order aE es.length ops.size false:=
         ⟨rfl,Nat.le_of_lt aT,Nat.le_of_lt aT,ia,la,ax,aL,hS,St,by rw [<-j1];exact M8 i0 _ cv yD,M8,WR _ _,
           fun j o aa ad aH bt=>by obtain ⟨e,g1,g2⟩:=tR es bk _ rfl (Nat.le_of_lt aT) (fun i o aX aq=>by obtain ⟨e,b6,z2,_⟩:=hS i o aX aq;exact ⟨e,b6,z2⟩) (fun _=>⟨i0,_,cv,j1,yD⟩) aA j o aa ad aH bt;exact ⟨e,g1,fun s aM hm=>by obtain ⟨ab,g3⟩:=g2 s aM hm;exact ⟨_,ab,⟨cU,dB⟩,g3⟩⟩,
           fun h=>absurd h (Nat.lt_irrefl _),fun _ _=>⟨i0,_,m0,cv,j1,fQ,KH,fun k ok mk aD aF mT=>by
            obtain ⟨mk',b6,z2,_⟩:=Tm k ok aD;rw [mT] at b6;cases b6;exact z2 aF,fun k ok aD aV az=>by
            obtain ⟨mk',b6,_,z3⟩:=Tm k ok aD;exact z3 aV az,v,ab,iV⟩⟩
        refine Js c6 bH cU dB k s C (fun h=>absurd h (by omega)) (fun aw bs w' x v1 aa g1 _ _ g3 g4 g5 g6=>?_) (fun h=>absurd h (Nat.lt_irrefl _));obtain ⟨i1,dk,b6,z2,z3⟩:=g3;have:i1=i0:=C.w3 (Array.getElem?_eq_some_iff.1 b6).1 wc (by rw [z2,j1]);subst this;rw [cv] at b6;cases b6;rw [iV] at z3;cases z3;exact cV aw bs w' x g1 g4 g5 g6
   cases az:rU P ops.toList with
   | false=>
     rw [az] at af;have none:∀(l:List Oper),rU P l=false->∀(j:Nat) (o:Oper),l[j]? =some o->e0 P o.op=false:=by
      intro l
      induction l with
      | nil=>intro _ j o h;simp at h
      | cons x l bd=>
        intro h j o aX;simp only [rU,Bool.or_eq_false_iff] at h;cases j with
        | zero=>simp only [List.getElem?_cons_zero,Option.some.injEq] at aX;subst aX;exact h.1
        | succ j=>exact bd h.2 j o (by simpa using aX)
     refine main _ (fun es oS N hlen hle hS S7 _ j o aX eC aA Bl=>?_) af;have J2:N=ops.size:=by
      rcases Nat.lt_or_ge N ops.size with aT | jW
      . obtain ⟨i0,iT,b6,z2,z3⟩:=S7 aT;have:=none _ az i0 iT (by simpa using b6);unfold ec at z3;rw [this] at z3;cases z3
      . omega
     obtain ⟨e,b0,b1⟩:=hS j o aX Bl;refine ⟨e,b0,fun s aM _=>?_⟩;have hp:s=ops.size:=by
      rcases uo aM with h | ⟨zf,cb,aa,ad,aH⟩
      . simpa using h
      . have:=none _ az zf cb aa;unfold ec at ad;rw [this] at ad;cases ad
     have flat:∀d,d<=ops.size->cg es oS d=cg es oS 0:=by
      intro d
      induction d with
      | zero=>intro _;rfl
      | succ d bd=>
        intro bb;obtain ⟨i,Bj,nT⟩:=la d (by omega);have cv:ops[i]? =some ops[i]:=Array.getElem?_eq_getElem Bj;obtain ⟨acE,bW,bV⟩:=hS i ops[i] cv (by omega);rw [nT] at bW bV;have cR:e0 P ops[i].op=false:=none _ az i _ (by simp);rw [(vA cR bV).1,<-bd (by omega)];simp [cg,bW]
     have:e.h=cg es oS s:=by rw [hp,flat ops.size (Nat.le_refl _),<-flat (posOf aE j) (by omega)];simp [cg,b0]
     rw [<-this];exact ⟨_,b1⟩
   | true=>
     rw [az] at af;refine main _ (fun es oS N hlen hle hS S7 KZ j o aX eC aA Bl=>?_) af;obtain ⟨e,b0,_⟩:=hS j o aX Bl;have:=IE KZ j o (by simpa using aX) eC aA e (by simpa using b0);exact ⟨e,b0,by simpa using this⟩
end
def toExit:db->Exit
 | .normal=>.normal
 | .exit id=>.exit id
 | .ret=>.ret
def YU (C:Ctx):Prop:=
 ∀f p args h v ab,C.Mu f=some p->p.run args h=.val v ab->(∃fn,C.P.funcs[f]? =some fn/\fn.body.isSome=true)/\∀(ay:Fr) E w xs,bh E args xs->bf ay E h w->
  Calls C.P f xs.toArray w fun e w'=>∃aw x,e=.returned x/\E.le aw/\Rel aw v x/\bf ay aw ab w'
def X8 (C:Ctx):Prop:=
 ∀f p args h v ab,C.ext f=some p->p.run args h=.val v ab->∀(ay:Fr) E w xs,bh E args xs->bf ay E h w->
  ∃aw x w',(callFunc f xs.toArray).run C.P w=.ok (.value x) w'/\E.le aw/\Rel aw v x/\bf ay aw ab w'
def rP (C:Ctx):Prop:=YU C/\X8 C
theorem qR {P:Program} {rd:Option Nat} (m:Machine):m.fenced P (ct rd):=fenced_wide P m
def Hk (rd:Option Nat) (P:Program) (c:Code) (Q:Exit->Act->World->Prop) (a:Act) (w:World):Prop:=
 match c with
 | .loop x=>∀(b:Frame) (k:List Item) (cs:List Frame),b.roundOf=rd->∃e bs w',Q e bs w'/\ArrivesIn (Machine.fenced P (ct rd)) P (lone (b.atR a (.code x::.inLoop x::k)) cs w) b k cs e bs w'
 | c=>c.wpIn (ct rd) 0 P Q a w
theorem Hk.wp {rd:Option Nat} {P:Program} {c:Code} {Q:Exit->Act->World->Prop} {a:Act} {w:World} (h:Hk rd P c Q a w):c.wpIn (ct rd) 0 P Q a w:=by
 cases c with
 | loop x=>
   intro b k cs lG _ _;obtain ⟨e,bs,w',q,r⟩:=h b k cs lG;exact ⟨e,bs,w',q,.of_steps (.one (qR _) stepR_loop) r⟩
 | _=>exact h
def xU (ay:Fr) (E:Env) (ar:Nat) (Q:Exit->Act->World->Prop):l3->Prop
 | .ok e r h=>∀aw bs w',E.le aw->fs aw ar r bs->bf ay aw h w'->Q (toExit e) bs w'
 | .cM v r h=>∀aw bs w' x,E.le aw->fs aw ar r bs->Rel aw v x->bf ay aw h w'->Q (.panic (qd x)) bs w'
 | .fail=>False
theorem xU.up {ay:Fr} {E aw:Env} (h:E.le aw) {ar:Nat} {Q:Exit->Act->World->Prop} {x:l3} (k:xU ay E ar Q x):xU ay aw ar Q x:=by
 cases x with
 | ok e r bk=>exact fun bL a w ad=>k bL a w (h.trans ad)
 | cM v r bk=>exact fun bL a w x ad=>k bL a w x (h.trans ad)
 | fail=>exact k
def N0 (P:Program) (ar:Nat) (c:Code) (run:bB->ah->l3):Prop:=
 ∀(rd:Option Nat) (ay:Fr) r h,(rd=none\/noMark c=true)->∀E a w,fs E ar r a->bf ay E h w->∀Q:Exit->Act->World->Prop,xU ay E ar Q (run r h)->Hk rd P c Q a w
def tg (P:Program) (ex:hZ):Prop:=∀ar c,N0 P ar c (ex ar c)
def xa (tmps:Array Value):ResultVar->Sem Value
 | .tmp t=>pure (tmps.getD t undef)
 | .cell b t=>do loadVar t (<-asAddr (tmps.getD b undef))
theorem MO {P:Program} {ay:Fr} {E:Env} {ar:Nat} {r:bB} {h:ah} {a:Act} {w:World} (k:RegRel0 E ar r a) (s:bf ay E h w):∀{l:List ResultVar} {ag:List V},(kO P ar l).run r h=some ag->
 ∃xs,bh E ag xs/\(l.mapM (xa a.tmps)).run P w=.ok xs w
 | [],ag,he=>by simp only [kO,Option.some.injEq] at he;subst he;exact ⟨[],rfl,rfl⟩
 | .tmp t::l,ag,he=>by
   simp only [kO] at he;cases aC:(Nat.ble t top&&Nat.blt t ar) with
   | false=>rw [aC] at he;cases he
   | true=>
     rw [aC] at he;simp only [cond_true] at he;simp only [Bool.and_eq_true,Nat.ble_eq] at aC;cases aG:(kO P ar l).run r h with
     | none=>rw [aG] at he;cases he
     | some us=>
       rw [aG] at he;simp only [Option.some.injEq] at he;subst he;obtain ⟨xs,aa,ad⟩:=MO k s aG;refine ⟨_::xs,by simp only [bh];exact ⟨_,_,rfl,k.av t aC.1,aa⟩,?_⟩;rw [List.mapM_cons,Sem.run_bind];simp only [xa,Sem.run_pure,Result.andThen_ok,Sem.run_bind,ad]
 | .cell b t::l,ag,he=>by
   simp only [kO] at he;cases aC:(Nat.ble b top&&Nat.blt b ar) with
   | false=>rw [aC] at he;cases he
   | true=>
     rw [aC] at he;simp only [cond_true] at he;simp only [Bool.and_eq_true,Nat.ble_eq] at aC;cases ba:(p6 P t).run h (T.get .bad (aj b) r) with
     | none=>rw [ba] at he;cases he
     | some v=>
       rw [ba] at he;simp only at he;cases aG:(kO P ar l).run r h with
       | none=>rw [aG] at he;cases he
       | some us=>
         rw [aG] at he;simp only [Option.some.injEq] at he;subst he;obtain ⟨xs,aa,ad⟩:=MO k s aG;obtain ⟨Y,_,cC,A,hP,eM⟩:=Uj (P:=P) s (k.av b aC.1) ba;refine ⟨Y::xs,by simp only [bh];exact ⟨_,_,rfl,cC,aa⟩,?_⟩;rw [List.mapM_cons,Sem.run_bind];simp only [xa,hP,asAddr,Sem.run_bind,Sem.run_pure,Result.andThen_ok,eM,ad]
theorem O':∀(args:List V) (i:Nat) (t:bB) (j:Nat),i+args.length<=top+1->j<=top->
 T.get .bad (aj j) (mF i args t)=if i<=j/\j<i+args.length then (args[j-i]?).getD .bad else T.get .bad (aj j) t
 | [],i,t,j,_,_=>by
   have:¬(i<=j/\j<i):=by omega
   simp [mF,this]
 | v::ag,i,t,j,h,a6=>by
   simp only [List.length_cons] at h ⊢;rw [mF,O' ag _ _ _ (by omega) a6];by_cases aa:i+1<=j/\j<i+1+ag.length
   . rw [if_pos aa,if_pos (by omega)];have:j-i=(j - (i+1))+1:=by omega
     rw [this,List.getElem?_cons_succ]
   . rw [if_neg aa,T.h5];by_cases ad:j=i
     . subst ad;rw [if_pos rfl,if_pos (by omega)];simp
     . rw [if_neg (fun e=>ad (ed e).symm),if_neg (by omega)]
theorem ala {E:Env} {ag:List V} {xs:List Value} (h:bh E ag xs) (fn:Func) (a:Act) (P:Program) (w:World)
 (aG:(fn.results.toList.mapM (xa a.tmps)).run P w=.ok xs w):∃x,(results fn a.tmps).run P w=.ok x w/\Rel E (oneOf ag) x:=by
 have mS:(fn.results.mapM (xa a.tmps)).run P w=.ok xs.toArray w:=by rw [Array.mapM_eq_mapM_toList,Sem.run_map,aG];rfl
 have Kd:results fn a.tmps=(do
  let ag <-fn.results.mapM (xa a.tmps)
  pure (if h:ag.size=1 then ag[0] else .tuple ag)):=by
  unfold results;have:(fun x=>match x with
   | ResultVar.tmp t=>(pure (a.tmps.getD t undef):Sem Value)
   | ResultVar.cell b t=>do loadVar t (<-asAddr (a.tmps.getD b undef)))=xa a.tmps:=by
   funext x;cases x<;>rfl
  rw [<-this];rfl
 have t_:(results fn a.tmps).run P w=.ok (if h:xs.toArray.size=1 then xs.toArray[0] else .tuple xs.toArray) w:=by rw [Kd,Sem.run_bind,mS];rfl
 refine ⟨_,t_,?_⟩
 match ag,h with
 | [],h=>
   simp only [bh] at h;subst h;simp only [oneOf,Rel];exact ⟨#[],rfl,rfl⟩
 | [v],h=>
   simp only [bh] at h;obtain ⟨y,cT,rfl,a1,rfl⟩:=h;simpa [oneOf] using a1
 | v::u::ag,h=>
   have az:=h.length;have cR:¬xs.toArray.size=1:=by simp at az ⊢;omega
   rw [dif_neg cR];simp only [oneOf,Rel];exact ⟨_,rfl,by simpa using h⟩
section
variable {C:Ctx}
theorem O9:∀(args:List V) (i:Nat) (t:bB),i+args.length<=top+1->T.get .bad eV (mF i args t)=T.get .bad eV t
 | [],_,_,_=>rfl
 | v::ag,i,t,h=>by simp only [List.length_cons] at h;simp only [mF];rw [O9 ag (i+1) _ (by omega),T.h5,if_neg (w1 (by omega))]
theorem Rk {E:Env} {ar:Nat} {args:List V} {xs:List Value} (az:bh E args xs) (lz:args.length<=ar) (hi:ar<=top):
 fs E ar (mF 0 args .e) {tmps:=xs.toArray++Array.replicate (ar-xs.toArray.size) undef,defers:=[]}:=by
 have hlen:=az.length;refine ⟨⟨by simp;omega,fun t au=>?_⟩,?_⟩
 . rw [O' _ _ _ _ (by omega) au];by_cases aT:t<args.length
   . rw [if_pos (by omega),Nat.sub_zero,List.getElem?_eq_getElem aT];obtain ⟨y,a1,cC⟩:=az.get t args[t] (List.getElem?_eq_getElem aT);simp only [Option.getD_some];have:(xs.toArray++Array.replicate (ar-xs.toArray.size) undef).getD t undef=y:=by
      rw [Array.getD_eq_getD_getElem?,Array.getElem?_append_left (by simp;omega)];simp [a1]
     rw [this];exact cC
   . rw [if_neg (by omega)];simp [Rel]
 . rw [O9 _ _ _ (by omega)];simp [lo]
def kW (E:Env) (u:Option V) (m:FrameMode):Prop:=
 match u with
 | none=>m=.returning
 | some v=>∃x,Rel E v x/\m=.panicking (qd x)
theorem kW.mono {E aw:Env} (h:E.le aw) {u:Option V} {m:FrameMode} (k:kW E u m):kW aw u m:=by
 cases u with
 | none=>exact k
 | some v=>obtain ⟨x,aa,ad⟩:=k;exact ⟨x,Rel.mono h _ _ aa,ad⟩
theorem kW.settle {E:Env} {u:Option V} {m:FrameMode} (k:kW E u m):settle m=m:=by
 cases u with
 | none=>simp only [kW] at k;subst k;rfl
 | some v=>obtain ⟨x,aa,rfl⟩:=k;rfl
theorem kW.run {E:Env} {u:Option V} {m:FrameMode} (k:kW E u m):m≠.run:=by
 cases u with
 | none=>simp only [kW] at k;subst k;simp
 | some v=>obtain ⟨x,aa,rfl⟩:=k;simp
def C6 (P:Program) (kx:u4):Prop:=
 ∀f args u h ha ab,kx f args u h=.go ha ab->(∃fn,P.funcs[f]? =some fn/\fn.body.isSome=true)/\
  ∀(ay:Fr) E w xs m,bh E args xs->kW E u m->bf ay E h w->CallsDIn (ct none) 0 P f xs.toArray m w fun e cj w'=>∃aw x,e=.returned x/\E.le aw/\kW aw ha (settle cj)/\bf ay aw ab w'
theorem bf.gone {ay:Fr} {E:Env} {h:ah} {w w':World} (s:bf ay E h w) {b:aO} {p:jr} (hE:(h.get b).own=true) (af:E b=some p) (dc:ay.w.heap.size<=p.aW)
 (aT:w.heap.size<=w'.heap.size) (mW:∀j,j≠p.aW->w'.heap[j]? =w.heap[j]?) (oX:w'.os=w.os) (au:w'.tape=w.tape) (aX:w'.output=w.output):bf ay E (h.set b .dead) w':=
 s.set hE af dc aT mW oX au aX (fun _ _ _ e=>by cases e) trivial
theorem LD {P:Program} {kx:u4} (bH:eF P) (lA:C6 P kx) {ay:Fr} {fn:Func} {tmps:Array Value} {R:Ending->World->Prop}:∀(ag:List V) (ds:List Deferred) (E:Env) (u:Option V) (h:ah) (w:World) (m:FrameMode) (ha:Option V) (ab:ah),
 m_ kx ag u h=.go ha ab->nw E ag ds->kW E u m->bf ay E h w->(∀aw cj w',E.le aw->kW aw ha cj->bf ay aw ab w'->LeavesInM (ct none) 0 P fn tmps R [] cj w')->LeavesInM (ct none) 0 P fn tmps R ds m w
 | [],ds,E,u,h,w,m,ha,ab,he,bb,hu,s,cC=>by simp only [m_,tn.go.injEq] at he;obtain ⟨rfl,rfl⟩:=he;simp only [nw] at bb;subst bb;exact cC E m w (Env.le.refl E) hu s
 | v::ag,ds,E,u,h,w,m,ha,ab,he,bb,hu,s,cC=>by
   obtain ⟨d,oJ,rfl,EU,EV⟩:=bb;cases v with
   | func f args=>
     simp only [m_] at he;cases aC:kx f args u h with
     | fail=>rw [aC] at he;cases he
     | go lX aa=>
       rw [aC] at he;simp only at he;obtain ⟨aB,cap,au,az⟩:=EU;obtain ⟨⟨adi,kh,ae⟩,cU⟩:=lA _ _ _ _ _ _ aC;refine ⟨hu.run,.inr ⟨fun h=>by simp at h,_,cap,f,d.args++cap,au,?_,fun _ _=>trivial,?_⟩⟩
       . rw [au];simp only [invoke];exact uN bH kh ae _ w
       . have e:d.args++cap=(d.args.toList++cap.toList).toArray:=by apply Array.ext';simp
         rw [e];refine CallsDIn.mono (cU ay E w _ m az hu s) fun e m1 bW aA=>?_;obtain ⟨ej,x,rfl,ao,ax,aL⟩:=aA;exact LD bH lA ag oJ ej lX aa bW (settle m1) ha ab he (EV.mono ao) ax aL fun bL m2 bV b0 b1 cS=>cC bL m2 bV (ao.trans b0) b1 cS
   | ptr b off=>
     simp only [m_] at he;cases aF:h.get b<;>rw [aF] at he<;>simp only at he<;>try (cases he;done)
     obtain ⟨p,af,aeP⟩:=EU;have ae:=s.at af;rw [aF] at ae;obtain ⟨p',eZ,dc,bk⟩:=ae;rw [af] at eZ;cases eZ;have lD:=(Array.getElem?_eq_some_iff.1 bk).1
     let bW:World:={w with heap:=w.heap.setIfInBounds p.aW (.deferred none)}
     have af9:(Instr.takeDeferred p.aW).run P w=.ok [] bW:=by
      have e6:(getObj p.aW).run P w=.ok (.deferred (some [])) w:=by simp only [getObj,Sem.run,bk]
      have ss:(setObj p.aW (.deferred none)).run P w=.ok () bW:=by simp only [setObj,Sem.run,bk];rfl
      simp only [Instr.takeDeferred,Sem.run_bind,e6,Result.andThen_ok,ss,Sem.run_pure]
     have s1:bf ay E (h.set b .dead) bW:=s.gone (by rw [aF];rfl) af dc (by simp [bW]) (fun j a6=>by simp only [bW,Array.getElem?_setIfInBounds];rw [if_neg (fun e=>a6 e.symm)]) rfl rfl rfl;refine ⟨hu.run,.inl ⟨p.aW,bW,by rw [aeP],af9,?_⟩⟩;exact LD bH lA ag oJ E u _ bW m ha ab he EV hu s1 cC
   | _=>simp [m_] at he
theorem MT {P:Program} {ay:Fr} {E:Env} {fn:Func} {r:bB} {h:ah} {a:Act} {w:World} (k:RegRel0 E fn.ntmps r a) (s:bf ay E h w) {ag:List V} (ba:(kO P fn.ntmps fn.results.toList).run r h=some ag):
 ∃x,(results fn a.tmps).run P w=.ok x w/\Rel E (oneOf ag) x:=by
 obtain ⟨cT,b0,b1⟩:=MO (P:=P) k s ba;exact ala b0 fn a P w b1
section
variable {C:Ctx}
theorem abt (ex:hZ):hb C.P (r3 C ex):=by intro f args h v ab he;trivial
def rO (ay:Fr) (E:Env) (R:Ending->World->Prop):a7->Prop
 | .val v ab=>∀aw x w',E.le aw->Rel aw v x->bf ay aw ab w'->R (.returned x) w'
 | .cM v ab=>∀aw x w',E.le aw->Rel aw v x->bf ay aw ab w'->R (.panicked (qd x)) w'
 | .fail=>False
theorem rO.up {ay:Fr} {E aw:Env} (h:E.le aw) {R:Ending->World->Prop} {x:a7} (k:rO ay E R x):rO ay aw R x:=by
 cases x with
 | val v bk=>exact fun bL a w ad=>k bL a w (h.trans ad)
 | cM v bk=>exact fun bL a w ad=>k bL a w (h.trans ad)
 | fail=>exact k
theorem JI (bH:eF C.P) {kx:u4} (lA:C6 C.P kx) {ay:Fr} {fn:Func} {E:Env} {r:bB} {u:Option V} {h:ah} {a:Act} {w:World} {m:FrameMode} {R:Ending->World->Prop}
 (k:fs E fn.ntmps r a) (hu:kW E u m) (s:bf ay E h w)
 (af:rO ay E R (finish (kO C.P fn.ntmps fn.results.toList) r (m_ kx (T.get .bad eV r).list u h))):LeavesInM (ct none) 0 C.P fn a.tmps R a.defers m w:=by
 cases az:m_ kx (T.get .bad eV r).list u h with
 | fail=>rw [az] at af;exact af.elim
 | go ha ab=>
   rw [az] at af;refine LD bH lA _ a.defers E u h w m ha ab az k.defers.list hu s fun aw cj w' ao ax aL=>?_;cases ha with
   | some v=>
     obtain ⟨x,ai,rfl⟩:=ax;exact af aw x w' ao ai aL
   | none=>
     simp only [kW] at ax;subst ax;simp only [finish] at af;cases ba:(kO C.P fn.ntmps fn.results.toList).run r ab with
     | none=>rw [ba] at af;exact af.elim
     | some ag=>
       rw [ba] at af;obtain ⟨x,b0,b1⟩:=MT (P:=C.P) (k.mono ao).toRegRel0 aL ba;exact ⟨x,b0,af aw x w' ao b1 aL⟩
theorem QW {res:xW} {u ha:Option V} {x:l3} {ab:ah} (he:Ef res u x=.go ha ab):∃e r ag,x=.ok e r ab/\(e=.normal\/e=.ret)/\T.get .bad eV r=.bad/\res.run r ab=some ag/\ha=u:=by
 unfold Ef at he;cases x with
 | fail=>cases he
 | cM _ _ _=>cases he
 | ok e r h=>
   have main:(bif (T.get .bad eV r).Lp then (match res.run r h with
    | some _=>tn.go u h
    | none=>.fail) else .fail)=.go ha ab->(e=.normal\/e=.ret)->∃c9 bu ag,l3.ok e r h=.ok c9 bu ab/\(c9=.normal\/c9=.ret)/\T.get .bad eV bu=.bad/\res.run bu ab=some ag/\ha=u:=by
    intro he hR;cases ae:(T.get .bad eV r).Lp with
    | false=>rw [ae] at he;cases he
    | true=>
      rw [ae] at he;simp only [cond_true] at he;have Bb:T.get .bad eV r=.bad:=by
       cases aF:T.get .bad eV r<;>rw [aF] at ae<;>first
        | rfl
        | cases ae
      cases ba:res.run r h with
      | none=>rw [ba] at he;cases he
      | some ag=>
        rw [ba] at he;simp only [tn.go.injEq] at he;obtain ⟨rfl,rfl⟩:=he;exact ⟨e,r,ag,rfl,hR,Bb,ba,rfl⟩
   cases e with
   | normal=>exact main he (.inl rfl)
   | ret=>exact main he (.inr rfl)
   | exit id=>cases he
theorem amm {c:Code} {s:Im} (h:GA c=some s):∃id dk dH args types,c=.seq (.region id #[dk,dH] false) s.rest/\dk.dst=some s.d/\dk.op=.call ⟨.builtin .recover,args,types⟩/\dk.guard=none/\dH.dst=some s.e/\dH.op=.assign s.x/\dH.guard=none:=by
 unfold GA at h
 split at h
 case h_2=>cases h
 rename_i id ops rest
 split at h
 case h_2=>cases h
 rename_i dk dH az
 split at h
 case h_2=>cases h
 rename_i d args types e x aa ad aH bt cI cA;cases h;have afG:ops=#[dk,dH]:=by apply Array.ext';simp [az]
 subst afG;exact ⟨id,dk,dH,_,_,rfl,aa,ad,aH,bt,cI,cA⟩
theorem acr (c6:C.P.follows .mixedOrders=true) (bH:eF C.P) {ex:hZ} (hex:tg C.P ex):C6 C.P (Ee C.P ex):=by
 intro f args u h ha ab he;unfold Ee at he;cases aB:C.P.funcs[f]? with
 | none=>rw [aB] at he;cases he
 | some fn=>
   rw [aB] at he;simp only at he;cases ae:fn.body with
   | none=>rw [ae] at he;cases he
   | some c=>
     rw [ae] at he;simp only at he;refine ⟨⟨fn,rfl,by rw [ae];rfl⟩,fun ay E w xs m az hu s=>?_⟩;cases hi:Nat.ble fn.ntmps top with
     | false=>rw [hi] at he;cases he
     | true=>
       rw [hi] at he;simp only [cond_true] at he;rw [Nat.ble_eq] at hi;unfold QX at he;cases lz:Nat.ble args.length fn.ntmps with
       | false=>rw [lz] at he;cases he
       | true=>
         rw [lz] at he;simp only [cond_true] at he;rw [Nat.ble_eq] at lz;have k:=Rk az lz hi;cases aG:GA c with
         | none=>
           rw [aG] at he;simp only at he;obtain ⟨e,r,ag,ai,hR,yE,ba,rfl⟩:=QW he;refine CallsDIn.mono (callsDIn_of_wp (R:=fun e w'=>∃aw x,e=.returned x/\E.le aw/\bf ay aw ab w') aB ae trivial ?_) fun c9 cj w' aA=>?_
           . refine (hex fn.ntmps c none ay _ h (.inl rfl) E _ w k s _ ?_).wp;rw [ai];intro aw bs w' ao ax aL;have bb:bs.defers=[]:=by have:=ax.defers;rw [yE] at this;exact this
             obtain ⟨x,b0,b1⟩:=MT (P:=C.P) ax.toRegRel0 aL ba;rcases hR with rfl | rfl<;>exact ⟨bb,x,b0,aw,x,rfl,ao,aL⟩
           . obtain ⟨rfl,aw,x,rfl,ao,aL⟩:=aA;exact ⟨aw,x,rfl,ao,by rw [hu.settle];exact hu.mono ao,aL⟩
         | some qj=>
           rw [aG] at he;simp only at he;cases gm:(eW fn.ntmps (some qj.d)&&eW fn.ntmps (some qj.e)) with
           | false=>rw [gm] at he;cases he
           | true=>
             rw [gm] at he;simp only [cond_true] at he;simp only [Bool.and_eq_true] at gm;obtain ⟨e,r,ag,ai,hR,yE,ba,rfl⟩:=QW he;obtain ⟨id,dk,dH,sV,rt,rfl,g1,g2,g3,g4,g5,g6⟩:=amm aG;refine callsDIn_of_wpSIn aB ae trivial fun vz cs Kc=>wpSIn_seq (wpSIn_region ?_);obtain ⟨X,cp,nL,hh,cj,mR,af3⟩:∃X,Rel E (u.getD .nilIface) X/\∃nL,(match recoverD (vz::cs) with
              | some (v,ace)=>v=X/\ace=nL
              | none=>X=.nilIface/\nL=vz::cs)/\∃cj,nL={vz with mode:=cj}::cs/\settle cj=.returning:=by
              cases u with
              | none=>
                simp only [kW] at hu;subst hu;refine ⟨.nilIface,rfl,vz::cs,?_,.returning,?_,rfl⟩
                . simp only [recoverD,Kc];exact ⟨trivial,trivial⟩
                . rw [<-Kc]
              | some v=>
                obtain ⟨x,ai,rfl⟩:=hu;refine ⟨x,ai,{vz with mode:=.panicking [{v:=x,recovered:=true}]}::cs,?_,.panicking [{v:=x,recovered:=true}],rfl,rfl⟩;simp only [recoverD,Kc];exact ⟨trivial,trivial⟩
             have bK:=k.put gm.1 cp;have bT:=bK.put gm.2 (dA bK.toRegRel0 qj.x);rw [<-g1] at bT;rw [<-g4] at bT;have Fg:=(hex fn.ntmps qj.rest none ay _ h (.inl rfl) E _ w bT s (fun c9 bs w'=>bodyPostS C.P fn vz cs (fun e cj w'=>∃aw x,e=.returned x/\E.le aw/\kW aw none (settle cj)/\bf ay aw ab w') c9 bs nL w') (by
              have:Wb qj u (mF 0 args .e)=(fK dH.dst).run ((fK dk.dst).run (mF 0 args .e) (u.getD .nilIface)) ((bQ qj.x).run ((fK dk.dst).run (mF 0 args .e) (u.getD .nilIface))):=by rw [g1,g4];rfl
              rw [<-this,ai];intro aw bs w' ao ax aL;have bb:bs.defers=[]:=by have:=ax.defers;rw [yE] at this;exact this
              obtain ⟨x,b0,b1⟩:=MT (P:=C.P) ax.toRegRel0 aL ba;rcases hR with rfl | rfl<;>exact ⟨bb,cj,mR,x,b0,aw,x,rfl,ao,af3,aL⟩)).wp
             have Tg:=wpSIn_of_wpIn (F:=ct none) rfl Fg;have sv:∀y,Region.wanted dk y=true:=fun y=>by simp [Region.wanted,g3]
             have ub:∀y,Region.wanted dH y=true:=fun y=>by simp [Region.wanted,g6]
             have afZ:∀(ρ:Operand->Value),(execOp ρ dk).run C.P w=.ok .recover w:=fun ρ=>by obtain ⟨dst,op,type,pos,after,guard⟩:=dk;simp only at g2;subst g2;rfl
             have BC:∀(ρ:Operand->Value),(execOp ρ dH).run C.P w=.ok (.value (ρ qj.x)) w:=fun ρ=>by obtain ⟨dst,op,type,pos,after,guard⟩:=dH;simp only at g5;subst g5;rfl
             have b':(#[dk,dH]:Array Oper).size=2:=rfl;rw [b'];simp only [List.range_succ,List.range_zero,List.nil_append,List.cons_append,wpOpsSIn];have cz:(#[dk,dH]:Array Oper)[0]? =some dk:=rfl;have aN:(#[dk,dH]:Array Oper)[1]? =some dH:=rfl;rw [cz];simp only [sv,if_true,afZ];refine ⟨fun _ _=>trivial,?_⟩;cases SZ:recoverD (vz::cs) with
             | none=>
               rw [SZ] at hh;obtain ⟨aeq,pU⟩:=hh;subst aeq pU;simp only [aN,ub,if_true,BC];exact ⟨fun _ _=>trivial,Tg⟩
             | some Nu=>
               obtain ⟨v,apG⟩:=Nu;rw [SZ] at hh;obtain ⟨rfl,rfl⟩:=hh;simp only [aN,ub,if_true,BC];exact ⟨fun _ _=>trivial,Tg⟩
end
end
theorem WN:∀(xs:List V) (x:V),GZ (xs++[x])=some (xs,x)
 | [],x=>rfl
 | [y],x=>rfl
 | y::z::xs,x=>by have:=WN (z::xs) x;simp only [List.cons_append] at this ⊢;simp only [GZ,this]
theorem RegRel0.putAt {E:Env} {ar:Nat} {r:bB} {t:Array Value} {ds:List Deferred} (k:RegRel0 E ar r ⟨t,ds⟩) {d:Nat} (bb:d<ar) (au:d<=top) {v:V} {x:Value} (ba:Rel E v x):
 RegRel0 E ar (T.put .bad v (aj d) r) ⟨t.setIfInBounds d x,ds⟩:=by
 refine ⟨by simp only [Array.size_setIfInBounds];exact k.size,fun j a6=>?_⟩;rw [T.h5];have b':=k.size;simp only at b';by_cases h:d=j
 . subst h;rw [if_pos rfl];simp [Array.getD_eq_getD_getElem?,b',bb,ba]
 . rw [if_neg (fun e=>h (ed e))];have:=k.av j a6;simpa [Array.getD_eq_getD_getElem?,Array.getElem?_setIfInBounds,h] using this
theorem VO {E:Env} {ar:Nat} {ds:List Deferred}:∀(bj:List Nat) (ag:List V) (xs:List Value) (r:bB) (t:Array Value),pe ar bj=true->bh E ag xs->RegRel0 E ar r ⟨t,ds⟩->
 RegRel0 E ar (sS bj ag r) ⟨(bj.zip xs).foldl (fun t (p:Nat × Value)=>t.setIfInBounds p.1 p.2) t,ds⟩
 | [],ag,xs,r,t,_,_,k=>by cases ag<;>exact k
 | p::bj,[],xs,r,t,_,az,k=>by simp only [bh] at az;subst az;exact k
 | p::bj,v::ag,xs,r,t,af,az,k=>by obtain ⟨y,cT,rfl,a1,az⟩:=az;simp only [pe,List.all_cons,Bool.and_eq_true,Nat.blt_eq,Nat.ble_eq] at af;simp only [sS,List.zip_cons_cons,List.foldl_cons];exact VO bj ag cT _ _ af.2 az (k.putAt af.1.1 af.1.2 a1)
theorem VP {E:Env} {ar:Nat} {ds:List Deferred} {bj:Array Nat} {ag:List V} {xs:List Value} {r:bB} {t:Array Value} (af:pe ar bj.toList=true) (az:bh E ag xs) (k:RegRel0 E ar r ⟨t,ds⟩):
 RegRel0 E ar (sS bj.toList ag r) ⟨(bj.zip xs.toArray).foldl (fun t (p:Nat × Value)=>t.setIfInBounds p.1 p.2) t,ds⟩:=by
 rw [<-Array.foldl_toList,Array.toList_zip];exact VO bj.toList ag xs r t af az k
theorem RegRel0.Z2 {E:Env} {ar:Nat} {r:bB} {a:Act} (k:RegRel0 E ar r a) (v:V):RegRel0 E ar (T.put .bad v eV r) a:=
 ⟨k.size,fun t au=>by rw [T.h5,if_neg (fun e=>w1 au e.symm)];exact k.av t au⟩
section
variable {C:Ctx}
theorem adj (bH:eF C.P) (c6:C.P.follows .mixedOrders=true) {ex:hZ} (hex:tg C.P ex) {f:FuncId} {args:List V} {h:ah} {ay:Fr} {E:Env} {w:World} {xs:List Value} (az:bh E args xs) (s:bf ay E h w) {R:Ending->World->Prop}
 (af:rO ay E R ((JK C.P f).run ex args h)):(∃fn,C.P.funcs[f]? =some fn/\fn.body.isSome=true)/\Calls C.P f xs.toArray w R:=by
 unfold JK at af;cases aB:C.P.funcs[f]? with
 | none=>rw [aB] at af;exact af.elim
 | some fn=>
   rw [aB] at af;simp only at af;cases ae:fn.body with
   | none=>rw [ae] at af;exact af.elim
   | some c=>
     rw [ae] at af;simp only at af;refine ⟨⟨fn,rfl,by rw [ae];rfl⟩,?_⟩;cases hi:Nat.ble fn.ntmps top with
     | false=>rw [hi] at af;exact af.elim
     | true=>
       rw [hi] at af;simp only [cond_true] at af;rw [Nat.ble_eq] at hi;unfold RM at af;cases lz:Nat.ble args.length fn.ntmps with
       | false=>rw [lz] at af;exact af.elim
       | true=>
         rw [lz] at af;simp only [cond_true] at af;rw [Nat.ble_eq] at lz;have k:=Rk az lz hi;have lA:=acr (C:=C) c6 bH hex;refine tB.1 (callsIn_of_wp_marks (F:=ct none) (n:=0) aB ae trivial ?_);refine (hex fn.ntmps c none ay _ h (.inl rfl) E _ w k s _ ?_).wp;cases aG:ex fn.ntmps c (mF 0 args .e) h with
         | fail=>rw [aG] at af;exact af
         | cM v r aa=>
           rw [aG] at af;intro aw bs w' x ao ax aL bY;exact JI (u:=some v) bH lA ax ⟨x,aL,rfl⟩ bY (rO.up ao af)
         | ok e r aa=>
           rw [aG] at af;intro aw bs w' ao ax aL;have main:rO ay E R (finish (kO C.P fn.ntmps fn.results.toList) r (m_ (Ee C.P ex) (T.get .bad eV r).list none aa))->LeavesInM (ct none) 0 C.P fn bs.tmps R bs.defers .returning w':=by intro af;exact JI (u:=none) bH lA ax rfl aL (rO.up ao af)
           cases e with
           | normal=>exact main af
           | ret=>exact main af
           | exit id=>exact af.elim
theorem EB (bH:eF C.P) (c6:C.P.follows .mixedOrders=true) (im:rP C) {ex:hZ} (hex:tg C.P ex) {f:FuncId} {args:List V} {h:ah} {ay:Fr} {E:Env} {w:World} {xs:List Value} (az:bh E args xs) (s:bf ay E h w) {R:Ending->World->Prop}
 (af:rO ay E R ((yo C f).run ex args h)):(∃fn,C.P.funcs[f]? =some fn/\fn.body.isSome=true)/\Calls C.P f xs.toArray w R:=by
 unfold yo at af;cases aA:C.Mu f with
 | none=>rw [aA] at af;exact adj bH c6 hex az s af
 | some p=>
   rw [aA] at af;simp only at af;cases aG:p.run args h with
   | fail=>rw [aG] at af;exact af.elim
   | cM _ _=>rw [aG] at af;exact af.elim
   | val v ab=>
     rw [aG] at af;obtain ⟨aa,ad⟩:=im.1 f p args h v ab aA aG;refine ⟨aa,(ad ay E w xs az s).mono fun e w' aA=>?_⟩;obtain ⟨aw,x,rfl,ao,ax,aL⟩:=aA;exact af aw x w' ao ax aL
theorem bf.loop {P:Program} {ay:Fr} {E:Env} {h:ah} {w:World} (s:bf ay E h w) {b:aO} {l cG:kQ} {p:jr} {o cb:Loop} (aF:h.get b=.df l) (af:E b=some p) (dc:ay.w.heap.size<=p.aW) (bk:w.heap[p.aW]? =some (.loop o)) (aG:ve E cG cb):
 (setObj p.aW (.loop cb)).run P w=.ok () {w with heap:=w.heap.setIfInBounds p.aW (.loop cb)}/\bf ay E (h.set b (.df cG)) {w with heap:=w.heap.setIfInBounds p.aW (.loop cb)}:=by
 have lD:=(Array.getElem?_eq_some_iff.1 bk).1;refine ⟨by simp only [setObj,Sem.run,bk],s.set (p:=p) (by rw [aF];rfl) af dc (by simp) (fun j a6=>?_) rfl rfl rfl (fun _ _ _ e=>by cases e) ?_⟩
 . simp only [Array.getElem?_setIfInBounds];rw [if_neg (fun e=>a6 e.symm)]
 . exact ⟨p,cb,af,dc,by simp [lD],aG⟩
theorem run_getLoop {P:Program} {r:Nat} {w:World} {o:Loop} (bk:w.heap[r]? =some (.loop o)):(Instr.getLoop r).run P w=.ok o w:=by
 have:(getObj r).run P w=.ok (.loop o) w:=by simp only [getObj,Sem.run,bk]
 simp only [Instr.getLoop,Sem.run_bind,this,Result.andThen_ok,Sem.run_pure]
theorem Wm {ay:Fr} {E:Env} {h ab:ah} {w:World} {b:aO} {p:jr} {e:db} {v:V} {P:Program} {R:Ending->World->Prop} {a:Act} (s:bf ay E h w) (af:E b=some p) (he:xb b e h=.val v ab)
 (cC:∀x w',Rel E v x->bf ay E ab w'->R (.returned x) w'):roundPost P p.aW R (toExit e) a w:=by
 unfold xb at he;have ae:=s.at af;cases aF:h.get b<;>rw [aF] at he ae<;>simp only at he<;>try (cases he;done)
 rename_i l;obtain ⟨p',o,eZ,dc,bk,aG⟩:=ae;rw [af] at eZ;cases eZ;have yJ:=run_getLoop (P:=P) bk;obtain ⟨bD,b3,cc,eJ,dZ,dI,eg,dE⟩:=aG;cases e with
 | normal=>
   simp only [a7.val.injEq] at he;obtain ⟨rfl,rfl⟩:=he;obtain ⟨aa,ad⟩:=s.loop (P:=P) (cG:=⟨0,none,l.d,l.ar,l.r,l.bj,l.assign,l.body⟩) (cb:={o with state:=.ready,pending:=none}) aF af dc bk ⟨rfl,rfl,cc,eJ,dZ,dI,eg,dE⟩;refine ⟨.bool true,_,?_,cC _ _ rfl ad⟩;simp only [Instr.endRound,Sem.run_bind,yJ,Result.andThen_ok,Option.isNone_none,if_true,aa,Sem.run_pure]
 | ret=>
   simp only [a7.val.injEq] at he;obtain ⟨rfl,rfl⟩:=he;obtain ⟨aa,ad⟩:=s.loop (P:=P) (cG:=⟨2,some .ret,l.d,l.ar,l.r,l.bj,l.assign,l.body⟩) (cb:={o with state:=.done,pending:=some .ret}) aF af dc bk ⟨rfl,rfl,cc,eJ,dZ,dI,eg,dE⟩;refine ⟨.bool false,_,?_,cC _ _ rfl ad⟩;simp only [Instr.endRound,Sem.run_bind,yJ,Result.andThen_ok,Option.isNone_some,Bool.false_eq_true,if_false,aa,Sem.run_pure]
 | exit id=>
   simp only [a7.val.injEq] at he;obtain ⟨rfl,rfl⟩:=he;obtain ⟨aa,ad⟩:=s.loop (P:=P) (cG:=⟨2,some (.exit id),l.d,l.ar,l.r,l.bj,l.assign,l.body⟩) (cb:={o with state:=.done,pending:=some (.exit id)}) aF af dc bk ⟨rfl,rfl,cc,eJ,dZ,dI,eg,dE⟩;refine ⟨.bool false,_,?_,cC _ _ rfl ad⟩;simp only [Instr.endRound,Sem.run_bind,yJ,Result.andThen_ok,Option.isNone_some,Bool.false_eq_true,if_false,aa,Sem.run_pure]
theorem amy {P:Program} {ex:hZ} (hex:tg P ex) {ay:Fr} {E:Env} {h ab:ah} {w:World} {args:List V} {xs:List Value} {b:aO} {p:jr} {v:V} (he:CD ex args b h=.val v ab) (az:bh E args xs) (s:bf ay E h w) (af:E b=some p):
 ∃f tmps assign body,(Instr.yield p.aW xs.toArray).run P w=.ok (.round p.aW f tmps assign body) w/\
  RoundIn (ct none) 0 P p.aW f tmps assign body w fun e w'=>∃aw x,e=.returned x/\E.le aw/\Rel aw v x/\bf ay aw ab w':=by
 unfold CD at he;have ae:=s.at af;cases aF:h.get b<;>rw [aF] at he ae<;>simp only at he<;>try (cases he;done)
 rename_i l;obtain ⟨p',o,eZ,dc,bk,aG⟩:=ae;rw [af] at eZ;cases eZ;obtain ⟨bD,b3,cc,eJ,dZ,dI,eg,dE⟩:=aG;obtain ⟨aC,he⟩:=jv he;simp only [Bool.and_eq_true,Nat.beq_eq] at aC;obtain ⟨bS,bX,c3,fu⟩:=aC;have hlen:=az.length;have wo:o.params.size=xs.length:=by rw [<-Array.length_toList,cc,hlen,bS]
 refine ⟨o.fn,(o.params.zip xs.toArray).foldl (fun tmps (t,a)=>tmps.setIfInBounds t a) o.tmps,o.assign,o.body,?_,?_⟩
 . simp only [Instr.yield,Sem.run_bind,run_getLoop bk,Result.andThen_ok];rw [if_neg (by simp [wo])];rfl
 . rw [eJ,dZ];refine roundIn_of_wpIn (F:=ct none) trivial ?_;have jE:RegRel0 E l.ar l.r ⟨o.tmps,[]⟩:=⟨dI,eg⟩;rw [<-cc] at bX he;have bK:=(VP bX az jE).Z2 .bad;have k:fs E l.ar (T.put .bad .bad eV (sS o.params.toList args l.r)) ⟨(o.params.zip xs.toArray).foldl (fun t (p:Nat × Value)=>t.setIfInBounds p.1 p.2) o.tmps,[]⟩:=⟨bK,by rw [T.h5,if_pos rfl];simp [lo]⟩;have agu:=hex l.ar l.assign (some p.aW) ay _ h (.inr c3) E _ w k s (Exit.then (fun rY tb=>∃CV,(Instr.beginRound p.aW).run P tb=.ok () CV/\
    l.body.wpIn (ct (some p.aW)) 0 P (roundPost P p.aW fun e w'=>∃aw x,e=.returned x/\E.le aw/\Rel aw v x/\bf ay aw ab w') rY CV) (fun _ _ _=>False))
   refine (agu ?_).wp;cases ai:ex l.ar l.assign (T.put .bad .bad eV (sS o.params.toList args l.r)) h with
   | fail=>rw [ai] at he;cases he
   | cM _ _ _=>rw [ai] at he;cases he
   | ok e ama aa=>
     rw [ai] at he;cases e<;>simp only at he<;>try (cases he;done)
     intro ej bN bW ao ax aL;unfold GH at he;have h7:=ao _ _ af;have jy:=aL.at h7;cases Sv:aa.get b<;>rw [Sv] at he jy<;>simp only at he<;>try (cases he;done)
     rename_i eD;obtain ⟨b0,dk,Bv,pS,qY,sq⟩:=jy;rw [h7] at Bv;cases Bv;obtain ⟨cL,he⟩:=jv he;rw [Nat.beq_eq] at cL;obtain ⟨t1,t2,t3,t4,t5,t6,t7,t8⟩:=sq;obtain ⟨g1,g2⟩:=aL.loop (P:=P) (cG:=⟨1,eD.d_,eD.d,eD.ar,eD.r,eD.bj,eD.assign,eD.body⟩) (cb:={dk with state:=.busy}) Sv h7 pS qY ⟨rfl,t2,t3,t4,t5,t6,t7,t8⟩;refine ⟨{bW with heap:=bW.heap.setIfInBounds p.aW (.loop {dk with state:=.busy})},?_,?_⟩
     . have BB:dk.state=.ready:=by rw [t1,cL];rfl
       simp only [Instr.beginRound,Sem.run_bind,run_getLoop qY,Result.andThen_ok,g1,BB,Sem.run_pure]
     . refine (hex l.ar l.body (some p.aW) ay _ _ (.inr fu) ej _ _ ax g2 _ ?_).wp;cases y':ex l.ar l.body ama (aa.set b (.df ⟨1,eD.d_,eD.d,eD.ar,eD.r,eD.bj,eD.assign,eD.body⟩)) with
       | fail=>rw [y'] at he;cases he
       | cM _ _ _=>rw [y'] at he;cases he
       | ok aZ amb ad=>
         rw [y'] at he;simp only at he;intro bL a2 bV b6 z2 z3;exact Wm z3 (b6 _ _ h7) he fun x w' dT e3=>⟨bL,x,rfl,ao.trans b6,dT,e3⟩
theorem abv (c6:C.P.follows .mixedOrders=true) (bH:eF C.P) (im:rP C) {ex:hZ} (hex:tg C.P ex):gW C.P (r3 C ex) where
 fn:=by
  intro ay f args h v ab aB he E w xs az s;unfold r3 at he;rw [h3,if_neg aB] at he;cases ai:C.ext f with
  | some p=>
    rw [ai] at he;simp only at he;cases aG:p.run args h with
    | fail=>rw [aG] at he;cases he
    | cM _ _=>rw [aG] at he;cases he
    | val v1 aa=>
      rw [aG] at he;simp only [a7.L3,a7.val.injEq] at he;obtain ⟨rfl,rfl⟩:=he;exact .inr (im.2 f p args h _ _ ai aG ay E w xs az s)
  | none=>
  rw [ai] at he;simp only at he;exact .inl (EB bH c6 im hex az s (by rw [he];exact fun aw x w' ao ax aL=>⟨aw,x,rfl,ao,ax,aL⟩))
 cM:=by
  intro ay f args h v ab aB he E w xs az s;unfold r3 at he;rw [h3,if_neg aB] at he;cases ai:C.ext f with
  | some p=>
    rw [ai] at he;simp only at he;cases aG:p.run args h<;>rw [aG] at he<;>cases he
  | none=>
  rw [ai] at he;simp only at he;exact EB bH c6 im hex az s (by rw [he];exact fun aw x w' ao ax aL=>⟨aw,x,rfl,ao,ax,aL⟩)
 XP:=by intro ay args b h v ab he E w xs p az s af;unfold r3 at he;rw [h3,if_pos rfl] at he;unfold MW at he;rw [WN] at he;exact amy hex he az s af
 XR:=by
  intro args h v ab he;unfold r3 at he;rw [h3,if_pos rfl] at he;have aN:∀b e h,xb b e h≠.cM v ab:=by
   intro b e h he;unfold xb at he
   split at he
   . cases e<;>cases he
   . cases he
  have aZ:∀ar c b r h,GH ex ar c b r h≠.cM v ab:=by
   intro ar c b r h he;unfold GH at he
   split at he
   case h_2=>cases he
   rename_i l az;cases aC:Nat.beq l.st 0 with
   | false=>rw [aC] at he;cases he
   | true=>
     rw [aC] at he;simp only [cond_true] at he
     split at he
     . exact aN _ _ _ he
     . cases he
  have bJ:∀xs b h,CD ex xs b h≠.cM v ab:=by
   intro xs b h he;unfold CD at he
   split at he
   case h_2=>cases he
   rename_i l az;cases aC:(Nat.beq xs.length l.bj.length&&(pe l.ar l.bj&&(noMark l.assign&&noMark l.body))) with
   | false=>rw [aC] at he;cases he
   | true=>
     rw [aC] at he;simp only [cond_true] at he
     split at he
     case h_2=>cases he
     rename_i e r aa _;cases e<;>simp only at he<;>try (cases he;done)
     exact aZ _ _ _ _ _ he
  unfold MW at he
  split at he
  case h_2=>cases he
  split at he
  case h_2=>cases he
  exact bJ _ _ _ he
end
section
variable {C:Ctx}
theorem acY {P:Program} {e:db} {Q:Exit->Act->World->Prop} {a:Act} {w:World} (h:Q (toExit e) a w):(JH e).wpIn (ct none) 0 P Q a w:=by
 cases e with
 | normal=>exact wpIn_skip h
 | exit id=>exact wpIn_exit h
 | ret=>exact wpIn_ret h
theorem amj (c6:C.P.follows .mixedOrders=true) (bH:eF C.P) (im:rP C) {ex:hZ} (hex:tg C.P ex) {f:Operand} {bj:Array Tmp} {assign body:Code} {ar:Nat} {ay:Fr} {E:Env} {r:bB} {h:ah} {a:Act} {w:World} {Q:Exit->Act->World->Prop}
 (k:fs E ar r a) (s:bf ay E h w) (af:xU ay E ar Q (MK (fun g args h=>(yo C g).run ex args h) (bQ f) bj.toList ar assign body r h)):(Code.rangeFunc f bj assign body).wpIn (ct none) 0 C.P Q a w:=by
 unfold MK at af;have aB:=dA k.toRegRel0 f;generalize (bQ f).run r=xp at af aB;cases xp<;>simp only at af<;>try (exact af.elim)
 rename_i g cs;rw [h3] at af;by_cases aF:g=dt
 . rw [if_pos aF] at af;exact af.elim
 . rw [if_neg aF] at af;simp only [Rel] at aB;rcases aB with ⟨_,eL,cp,az⟩ | ⟨Kr,_⟩
   case inr=>exact absurd Kr aF
   refine wpIn_rangeFunc fun fn _=>?_;have f0:=s.fresh h.next (Nat.le_refl _)
   obtain ⟨ej,vQ⟩:∃ej,ej=E.put (aj h.next) ⟨w.heap.size,0,0⟩:=⟨_,rfl⟩;obtain ⟨bW,sv⟩:∃bW:World,bW={w with heap:=w.heap.push (.deferred (some []))}:=⟨_,rfl⟩;have By:ej (aj h.next)=some ⟨w.heap.size,0,0⟩:=by rw [vQ];unfold Env.put;rw [if_pos rfl]
   have s1:bf ay ej (h.new .fj) bW:=by rw [vQ,sv];refine s.alloc 0 ⟨⟨w.heap.size,0,0⟩,by unfold Env.put;rw [if_pos rfl],s.frame.size,by simp⟩
   have o7:E.le ej:=by rw [vQ];exact Env.lP f0
   have wx:bW.heap.size=w.heap.size+1:=by rw [sv];simp
   obtain ⟨o,aX⟩:∃o:Loop,o={state:=.ready,pending:=none,fn,tmps:=a.tmps,params:=bj,assign,body,defers:=w.heap.size}:=⟨_,rfl⟩;obtain ⟨bL,sc⟩:∃bL,bL=ej.put (aj (h.next+1)) ⟨bW.heap.size,0,0⟩:=⟨_,rfl⟩;obtain ⟨bV,ub⟩:∃bV:World,bV={bW with heap:=bW.heap.push (.loop o)}:=⟨_,rfl⟩;have f1:ej (aj (h.next+1))=none:=s1.fresh (h.next+1) (Nat.le_refl _);have lO:ej.le bL:=by rw [sc];exact Env.lP f1
   have Bz:bL (aj (h.next+1))=some ⟨bW.heap.size,0,0⟩:=by rw [sc];unfold Env.put;rw [if_pos rfl]
   have df:ve bL ⟨0,none,aj h.next,ar,r,bj.toList,assign,body⟩ o:=by subst aX;exact ⟨rfl,rfl,rfl,rfl,rfl,k.size,fun t au=>Rel.mono (o7.trans lO) _ _ (k.av t au),_,lO _ _ By,rfl⟩
   have s2:bf ay bL ((h.new .fj).new (.df ⟨0,none,aj h.next,ar,r,bj.toList,assign,body⟩)) bV:=by rw [sc,ub];refine s1.alloc 0 ⟨⟨bW.heap.size,0,0⟩,o,by show ej.put (aj (h.next+1)) _ (aj (h.next+1))=_;unfold Env.put;rw [if_pos rfl],by show ay.w.heap.size<=bW.heap.size;rw [wx];have:=s.frame.size;omega,by simp,?_⟩;have:=df;rw [sc] at this;exact this
   obtain ⟨hU,pY⟩:∃hU,hU=bW.heap.size:=⟨_,rfl⟩;have a1:Rel bL (.func dt [.ptr (aj (h.next+1)) 0]) (.func (.yield hU) #[] #[]):=by simp only [Rel];exact .inr ⟨trivial,_,_,rfl,Bz,by rw [pY]⟩
   have pT:bh bL (.func dt [.ptr (aj (h.next+1)) 0]::cs) (.func (.yield hU) #[] #[]::eL.toList):=by simp only [bh];exact ⟨_,_,rfl,a1,bh.mono (o7.trans lO) _ _ az⟩
   have cU:=EB (C:=C) bH c6 im hex (f:=g) pT s2 (R:=rangePost (ct none) 0 C.P hU Q {a with defers:=[{target:=.collected w.heap.size,args:=#[]}]++a.defers});cases aG:(yo C g).run ex (.func dt [.ptr (aj (h.next+1)) 0]::cs) ((h.new .fj).new (.df ⟨0,none,aj h.next,ar,r,bj.toList,assign,body⟩)) with
   | fail=>rw [aG] at af;exact af.elim
   | cM _ _=>rw [aG] at af;exact af.elim
   | val v ab=>
     rw [aG] at af cU;simp only at af;obtain ⟨⟨adi,kh,ae⟩,aC⟩:=cU (by
      intro aw x w' ao ax aL;simp only [rangePost];unfold V7 at af;have jd:=ao _ _ Bz;have ae:=aL.at jd;cases yJ:ab.get (aj (h.next+1))<;>rw [yJ] at af ae<;>simp only at af<;>try (exact af.elim)
      rename_i l;obtain ⟨p',cb,eZ,dc,bk,KC⟩:=ae;rw [jd] at eZ;cases eZ;obtain ⟨t1,t2,t3,t4,t5,t6,t7,t8⟩:=KC;rw [h3] at af;by_cases cL:l.st=1
      . rw [if_pos cL] at af;exact af.elim
      . rw [if_neg cL] at af;simp only at bk;rw [<-pY] at bk;have KM:(cb.state == LoopState.busy)=false:=by
         rw [t1]
         match nW:l.st with
         | 0=>rfl
         | 1=>exact absurd nW cL
         | n+2=>rfl
        have lD:=(Array.getElem?_eq_some_iff.1 bk).1
        let hv:World:={w' with heap:=w'.heap.setIfInBounds hU (.loop {cb with state:=.exhausted})}
        have gl:(Instr.endLoop hU).run C.P w'=.ok cb.pending hv:=by
         have ss:(setObj hU (.loop {cb with state:=.exhausted})).run C.P w'=.ok () hv:=by simp only [setObj,Sem.run,bk];rfl
         simp only [Instr.endLoop,Sem.run_bind,run_getLoop bk,Result.andThen_ok,KM,Bool.false_eq_true,if_false,ss,Sem.run_pure]
        have zO:bf ay aw (ab.set (aj (h.next+1)) .dead) hv:=by refine aL.gone (p:=⟨bW.heap.size,0,0⟩) (by rw [yJ];rfl) jd dc (by simp [hv]) (fun j a6=>?_) rfl rfl rfl;simp only at a6;simp only [hv,Array.getElem?_setIfInBounds];rw [if_neg (fun e=>a6 (by rw [<-e,pY]))]
        have gg:fs aw ar (T.put .bad (.tuple (.ptr (aj h.next) 0::(T.get .bad eV r).list)) eV r) {a with defers:=[{target:=.collected w.heap.size,args:=#[]}]++a.defers}:=by
         refine ⟨⟨k.size,fun t au=>?_⟩,?_⟩
         . rw [T.h5,if_neg (fun e=>w1 au e.symm)];exact Rel.mono (o7.trans (lO.trans ao)) _ _ (k.av t au)
         . rw [T.h5,if_pos rfl];simp only [lo,nw,List.cons_append,List.nil_append];exact ⟨_,_,rfl,⟨_,ao _ _ (lO _ _ By),rfl⟩,(k.defers.mono (o7.trans (lO.trans ao))).list⟩
        refine ⟨cb.pending,hv,gl,?_⟩;rw [t2];cases jD:l.d_ with
        | none=>
          rw [jD] at af;exact af aw _ hv (o7.trans (lO.trans ao)) gg zO
        | some e=>
          rw [jD] at af;exact acY (af aw _ hv (o7.trans (lO.trans ao)) gg zO))
     refine ⟨hU,[{target:=.collected w.heap.size,args:=#[]}],bV,{target:=.fn (.func g) eL,args:=#[]++#[.func (.yield hU) #[] #[]]},bV,g,_,bV,?_,?_,fun _ _=>trivial,?_,fun h=>by simp at h,tB.2 aC⟩
     . subst aX ub sv;have he:=run_enterLoop_outer (P:=C.P) (w:=w) fn a.tmps bj assign body;rw [World.alloc,World.alloc] at he;simp only [Array.size_push] at pY ⊢;rw [pY];exact he
     . simp only [resolve,cp,Deferred.ofValue,Sem.run_pure];simp [Act.eval]
     . simp only [invoke];have e:(#[]++#[Value.func (.yield hU) #[] #[]]:Array Value)++eL=(Value.func (.yield hU) #[] #[]::eL.toList).toArray:=by apply Array.ext';simp
       rw [e];exact uN bH kh ae _ bV
theorem zT {P:Program} {b:Frame} {a:Act} {k:List Item} {cs:List Frame} {w:World} {c:Code}:
 step P (lone (b.atR a (.code (.scope c)::k)) cs w)=.next (lone (b.atR a (.code c::.inScope c::k)) cs w):=
 step_lone_go (by simp [stepG,stepG.exec,Frame.atR])
theorem anm {P:Program} {b:Frame} {a:Act} {k:List Item} {cs:List Frame} {w:World} {c:Code}:
 step P (lone (b.atR a (.inScope c::k)) cs w)=.next (lone (b.atR a k) cs w):=
 step_lone_go (by simp [stepG,stepG.exec,Frame.atR])
theorem Wu {P:Program} {rd:Option Nat} {c:Code} {Q:Exit->Act->World->Prop} {a:Act} {w:World} (h:c.wpIn (ct rd) 0 P (Exit.noGoto Q) a w):(Code.scope c).wpIn (ct rd) 0 P Q a w:=by
 intro b k cs lG ae aG;obtain ⟨e,rY,tb,aA,jU⟩:=h b (.inScope c::k) cs lG ae aG;have ai:∀id,exitTo id (.inScope c::k)=exitTo id k:=fun id=>by simp [exitTo]
 cases e with
 | normal=>exact ⟨.normal,rY,tb,aA,.head (qR _) zT (StepsIn.trans jU (.one (qR _) anm))⟩
 | exit id=>exact ⟨.exit id,rY,tb,aA,fun bo aD=>.head (qR _) zT (jU.1 bo (by rw [ai];exact aD)),fun so aD=>let ⟨k₁,aa,ad⟩:=jU.2 so (by rw [ai];exact aD);⟨k₁,aa,.head (qR _) zT ad⟩⟩
 | goto l=>exact aA.elim
 | ret=>exact ⟨_,rY,tb,aA,.of_steps (.one (qR _) zT) jU⟩
 | panic apE=>exact ⟨_,rY,tb,aA,.of_steps (.one (qR _) zT) jU⟩
 | outgrown=>exact ⟨_,rY,tb,aA,.of_steps (.one (qR _) zT) jU⟩
theorem ab1 (c6:C.P.follows .mixedOrders=true) (bH:eF C.P) (im:rP C) {ex:hZ} (hex:tg C.P ex) (ar:Nat):∀c:Code,N0 C.P ar c ((ju C ar c).run ex):=by
 have cU:=abv c6 bH im hex;have dB:=abt (C:=C) ex;intro c
 induction c with
 | skip=>
   intro rd ay r h aG E a w k s Q af;exact wpIn_skip (af E a w (Env.le.refl E) k s)
 | label l=>
   intro rd ay r h aG E a w k s Q af;exact wpIn_label (af E a w (Env.le.refl E) k s)
 | exit id=>
   intro rd ay r h aG E a w k s Q af;exact wpIn_exit (af E a w (Env.le.refl E) k s)
 | ret=>
   intro rd ay r h aG E a w k s Q af;exact wpIn_ret (af E a w (Env.le.refl E) k s)
 | region id ops draw=>
   intro rd ay r h aG E a w k s Q af;have lift:∀x:oC,xU ay E ar Q (match x with | .ok bu ab=>.ok .normal bu ab | .cM v bu ab=>.cM v bu ab | .fail=>.fail)->nD ay E ar (Q .normal) Q x:=by intro x ai;cases x<;>exact ai
   cases draw with
   | true=>
     simp only [ju,cond_true,GB] at af;exact acA c6 bH cU dB (lift _ af) k s
   | false=>
     simp only [ju,cond_false,GB] at af;refine wpIn_region ?_;have:=U' (rd:=rd) (Q:=Q) bH cU dB ops.toList 0 (fun j=>by simp) (aG.imp (fun h=>h) fun h=>by simpa only [noMark,List.all_eq_true] using h) E r h a w (lift _ af) k s;rw [List.range_eq_range'];simpa using this
 | seq x y wC wD=>
   intro rd ay r h aG E a w k s Q af;simp only [ju,Wv] at af;have yV:rd=none\/noMark x=true:=aG.imp (fun h=>h) fun h=>by simp only [noMark,Bool.and_eq_true] at h;exact h.1
   have K9:rd=none\/noMark y=true:=aG.imp (fun h=>h) fun h=>by simp only [noMark,Bool.and_eq_true] at h;exact h.2
   refine wpIn_seq (wC rd ay r h yV E a w k s _ ?_).wp;cases ai:(ju C ar x).run ex r h with
   | fail=>rw [ai] at af;exact af
   | cM v bD aa=>rw [ai] at af;exact af
   | ok aN bD aa=>
     rw [ai] at af;simp only at af;intro aw bs w' ao ax aL;cases aN with
     | normal=>exact (wD rd ay bD aa K9 aw bs w' ax aL Q (af.up ao)).wp
     | exit id=>exact af aw bs w' ao ax aL
     | ret=>exact af aw bs w' ao ax aL
 | cond c x y wC wD=>
   intro rd ay r h aG E a w k s Q af;simp only [ju,QI] at af;have yV:rd=none\/noMark x=true:=aG.imp (fun h=>h) fun h=>by simp only [noMark,Bool.and_eq_true] at h;exact h.1
   have K9:rd=none\/noMark y=true:=aG.imp (fun h=>h) fun h=>by simp only [noMark,Bool.and_eq_true] at h;exact h.2
   have aC:=dA k.toRegRel0 c;cases ba:(bQ c).run r<;>rw [ba] at af aC<;>simp only at af<;>try (exact af.elim)
   rename_i t;simp only [Rel] at aC;cases t with
   | true=>exact wpIn_cond_true aC (wC rd ay r h yV E a w k s Q af).wp
   | false=>exact wpIn_cond_false aC (wD rd ay r h K9 E a w k s Q af).wp
 | block id x bd=>
   intro rd ay r h aG E a w k s Q af;simp only [ju,Pr] at af;refine wpIn_block (bd rd ay r h (aG.imp (fun h=>h) fun h=>h) E a w k s _ ?_).wp;cases ai:(ju C ar x).run ex r h with
   | fail=>rw [ai] at af;exact af
   | cM v bD aa=>rw [ai] at af;exact af
   | ok aN bD aa=>
     rw [ai] at af;simp only at af;intro aw bs w' ao ax aL;cases aN with
     | normal=>exact af aw bs w' ao ax aL
     | ret=>exact af aw bs w' ao ax aL
     | exit i=>
       simp only [h3] at af;simp only [toExit,Exit.inBlock];by_cases aq:i=id
       . rw [if_pos aq] at af ⊢;exact af aw bs w' ao ax aL
       . rw [if_neg aq] at af ⊢;exact af aw bs w' ao ax aL
 | loop x bd=>
   intro rd ay r h aG E a w k s Q af;simp only [ju,Ul] at af;have yV:rd=none\/noMark x=true:=aG.imp (fun h=>h) fun h=>h;intro b c' cs lG;cases ai:(ju C ar x).run ex r h with
   | fail=>rw [ai] at af;exact af.elim
   | cM v bD aa=>
     rw [ai] at af;have body:=(bd rd ay r h yV E a w k s (fun c9 bs w'=>∃y,c9=.panic y/\Q c9 bs w') (by rw [ai];exact fun aw bs w' x ao ax aL bY=>⟨_,rfl,af aw bs w' x ao ax aL bY⟩)).wp b (.inLoop x::c') cs lG trivial (MV _);obtain ⟨aZ,a2,bV,⟨y,rfl,q⟩,jU⟩:=body;exact ⟨_,a2,bV,q,.pass (x:=.inLoop x) rfl (fun _ _=>.inl (by simp)) jU⟩
   | ok aN bD aa=>
     rw [ai] at af;simp only at af;have body:=(bd rd ay r h yV E a w k s
      (fun c9 bs w'=>c9=toExit aN/\∃aw,E.le aw/\fs aw ar bD bs/\bf ay aw aa w') (by rw [ai];exact fun aw bs w' ao ax aL=>⟨rfl,aw,ao,ax,aL⟩)).wp b (.inLoop x::c') cs lG trivial (MV _)
     obtain ⟨aZ,a2,bV,⟨rfl,bL,ao,ax,aL⟩,jU⟩:=body;cases aN with
     | normal=>
       have next:=hex ar (.loop x) rd ay bD aa aG bL a2 bV ax aL Q (af.up ao)
       obtain ⟨bJ,a3,iE,b0,b1⟩:=next b c' cs lG
       exact ⟨bJ,a3,iE,b0,.of_steps (StepsIn.trans jU (.one (qR _) stepR_inLoop)) b1⟩
     | exit id=>exact ⟨.exit id,a2,bV,af bL a2 bV ao ax aL,.pass (x:=.inLoop x) rfl (fun _ _=>.inl (by simp)) jU⟩
     | ret=>exact ⟨.ret,a2,bV,af bL a2 bV ao ax aL,.pass (x:=.inLoop x) rfl (fun _ _=>.inl (by simp)) jU⟩
 | scope x bd=>
   intro rd ay r h aG E a w k s Q af;simp only [ju] at af;refine Wu (bd rd ay r h (aG.imp (fun h=>h) fun h=>h) E a w k s _ ?_).wp;cases ai:(ju C ar x).run ex r h with
   | fail=>rw [ai] at af;exact af
   | cM v bD aa=>rw [ai] at af;exact af
   | ok aN bD aa=>
     rw [ai] at af;intro aw bs w' ao ax aL;have:=af aw bs w' ao ax aL;cases aN<;>exact this
 | rangeFunc f bj x y _ _=>
   intro rd ay r h aG E a w k s Q af;rcases aG with rfl | aG
   case inr=>cases aG
   simp only [ju] at af;exact amj c6 bH im hex k s af
 | goto l=>intro rd ay r h aG E a w k s Q af;exact af.elim
 | refuse aoA=>intro rd ay r h aG E a w k s Q af;exact af.elim
end
section
variable {C:Ctx}
theorem Rw (c6:C.P.follows .mixedOrders=true) (bH:eF C.P) (im:rP C):∀n,tg C.P (exec C n)
 | 0=>fun ar c rd ay r h aG E a w k s Q af=>af.elim
 | n+1=>fun ar c=>ab1 c6 bH im (Rw c6 bH im n) ar c
theorem abu (c6:C.P.follows .mixedOrders=true) (bH:eF C.P) (im:rP C) {n:Nat} {f:FuncId} {args:List V} {h ab:ah} {v:V} (aB:Nat.beq f dt=false) (ai:C.ext f=none) (he:D3 C n f args h=.val v ab)
 {ay:Fr} {E:Env} {w:World} {xs:List Value} (az:bh E args xs) (s:bf ay E h w):
 (∃fn,C.P.funcs[f]? =some fn/\fn.body.isSome=true)/\Calls C.P f xs.toArray w fun e w'=>∃aw x,e=.returned x/\E.le aw/\Rel aw v x/\bf ay aw ab w':=by
 unfold D3 r3 at he;rw [aB,cond_false,ai] at he;simp only at he;exact EB bH c6 im (Rw c6 bH im n) az s (by rw [he];exact fun aw x w' ao ax aL=>⟨aw,x,rfl,ao,ax,aL⟩)
theorem WD (w:World) (hw:Lay.ok w):bf ⟨w,fun _=>none⟩ (fun _=>none) ah.empty w:=by
 refine ⟨fun b _=>?_,fun _ _ h=>(by cases h),(fun b bI p p' _ _ h=>by cases h),fun _ _=>rfl,Below.refl _ _,hw,(fun _ _ _ _ _ _ h=>by cases h)⟩;have:ah.empty.get b=.dead:=by simp [ah.get,ah.empty]
 rw [this];trivial
theorem an4 (c6:C.P.follows .mixedOrders=true) (bH:eF C.P) {w:World} (hw:Lay.ok w) (im:rP C) {n:Nat} {f:FuncId} (aB:Nat.beq f dt=false) (ai:C.ext f=none) (h:Np C n f []=true):
 Calls C.P f #[] w fun e w'=>e=.returned (.bool true)/\Below w.heap.size w w':=by
 unfold Np at h;cases aC:D3 C n f [] ah.empty with
 | fail=>rw [aC] at h;cases h
 | cM _ _=>rw [aC] at h;cases h
 | val v bk=>
   rw [aC] at h;simp only at h;cases v<;>simp only at h<;>try (cases h;done)
   subst h;obtain ⟨_,jV⟩:=abu c6 bH im aB ai aC (ay:=⟨w,fun _=>none⟩) (E:=fun _=>none) (w:=w) (xs:=[]) rfl (WD w hw);refine jV.mono fun e w' aA=>?_;obtain ⟨aw,x,rfl,_,ax,aL⟩:=aA;simp only [Rel] at ax;subst ax;exact ⟨rfl,aL.frame⟩
end
inductive aU where
 | t (n:Nat)
 | c (v:V)
abbrev bc:=Nat->V
def aU.aR (r:bc):aU->V
 | .t n=>r n
 | .c v=>v
def aU.fN (r:bc):List aU->List V
 | []=>[]
 | x::xs=>x.aR r::aU.fN r xs
def rx:Operand->aU
 | .tmp t=>bif Nat.ble t top then .t t else .c .bad
 | .const v=>.c (hr v)
 | .func f=>bif Nat.beq f dt then .c .bad else .c (.func f [])
 | .global _=>.c .bad
def nn:List Operand->List aU
 | []=>[]
 | x::xs=>rx x::nn xs
def aU.opt (r:bc):Option aU->Option V
 | none=>none
 | some x=>some (x.aR r)
def sY:Option Operand->Option aU
 | none=>none
 | some x=>some (rx x)
inductive eK where
 | int (op:BinOp)
 | str (op:BinOp)
 | shl
 | shr
 | yi (neg:Bool)
 | jx (neg:Bool) (k:Nat)
 | other (op:BinOp) (t:TypeId)
def eK.run (P:Program):eK->V->V->Option V
 | .int op=>(lK op).run
 | .str op=>(s3 op).run
 | .shl=>(xe true).run
 | .shr=>(xe false).run
 | .yi neg=>(jw neg qM).run
 | .jx neg k=>(jw neg (hf k)).run
 | .other op t=>(rZ P op t).run
inductive te where
 | int (k:IntKind)
 | bytes
 | str
 | other (s d:TypeId)
def te.run (P:Program):te->V->ah->a7
 | .int k=>fun x h=>x.eo .fail fun _ n=>.val (.int k (k.wrap n)) h
 | .bytes=>AW.run
 | .str=>tD.run
 | .other s d=>(qJ P s d).run
inductive jR where
 | int | str | bool
def jR.eq:jR->dG
 | .int=>lv
 | .str=>vG
 | .bool=>qM
inductive Dm where
 | arr (n:Nat)
 | str
 | slice
 | map
inductive G where
 | bad
 | bz (x:aU)
 | pick (c a b:aU)
 | new (z:List V)
 | box (x:aU)
 | build (z:List V) (bj:List (Nat × Nat × aU))
 | i_ (len size:Nat) (z:List V) (bj:List (Nat × Nat × aU))
 | fy (x:aU)
 | ff (size:Nat) (x:aU)
 | st (size:Nat) (x y:aU)
 | iR (x:aU)
 | bin (k:eK) (x y:aU)
 | un (op:UnOp) (x:aU)
 | kf (k:te) (x:aU)
 | fn (f:FuncId) (eL:List aU)
 | Ca (f:FuncId) (first:List aU)
 | DM (t:TypeId) (z:Option V) (ok:Bool) (x:aU)
 | sx (t:TypeId) (x:aU)
 | B' (size:Nat) (z:List V) (l c:aU)
 | rv (x:aU) (bC aq dV:Option aU)
 | fo (size:Nat) (x:aU) (bC aq dV:Option aU)
 | e5 (off:Nat) (x:aU)
 | vL (off:Nat) (x:aU)
 | vM (off size:Nat) (x:aU)
 | dD (size:Nat) (x i:aU)
 | o4 (n size:Nat) (x i:aU)
 | lL (x i:aU)
 | j4 (t:TypeId) (x i:aU)
 | look (k:jR) (z:V) (ok:Bool) (x i:aU)
 | eE (k:jR) (m i x:aU)
 | rj (x:Option aU)
 | zL (x:aU)
 | zv (x:aU)
 | ext (x:aU) (i:Nat)
 | call (f:FuncId) (args:List aU)
 | pL (f:aU) (args:List aU)
 | len (k:Dm) (x:aU)
 | app (size:Nat) (s x:aU)
 | copy (size:Nat) (d s:aU)
 | wS (args:List aU)
 | dV (args:List aU)
 | QG (z:List V) (x:aU)
 | tC (x:aU)
 | x3 (size:Nat) (z:List V) (s x:aU)
 | rh (z:V) (ok:Bool) (x i:aU)
 | looks (k:TypeId) (z:V) (ok:Bool) (x i:aU)
 | xn (m i x:aU)
 | CP (k:TypeId) (m i x:aU)
 | wR (z:V) (m i:aU)
 | B9 (k:TypeId) (z:V) (m i:aU)
 | vK (m s x:aU)
 | CC (x:aU)
 | Cg (x:aU)
 | A2 (x:aU)
 | peq (neg:Bool) (x y:aU)
def kz (r:bc):List (Nat × Nat × aU)->List (Nat × Nat × V)
 | []=>[]
 | (o,s,x)::bj=>(o,s,x.aR r)::kz r bj
def jb:List V->List (Nat × Nat × V)->Option (List V)
 | cells,[]=>some cells
 | cells,(off,size,v)::rest=>bif v.fI&&(Nat.beq v.cells.length size&&Nat.ble (off+v.cells.length) cells.length) then jb (r_ cells off v.cells) rest else none
def Dm.run:Dm->V->ah->a7
 | .arr n=>fun _ h=>.val (.int .i64 n) h
 | .str=>fun x h=>a7.of h ((o9 .string).run x)
 | .slice=>fun x h=>a7.of h ((o9 (.slice 0)).run x)
 | .map=>fun x h=>B1 [x] h
def uF (neg:Bool) (h:ah) (x y:V):Option V:=
 match g' h x y with
 | some b=>some (.bool (bif neg then !b else b))
 | none=>none
def G.run (P:Program) (g:G) (call:dJ) (r:bc) (h:ah):a7:=
 match g with
 | .bad=>.fail
 | .bz x=>.val (x.aR r) h
 | .pick c a b=>match c.aR r with
   | .bool t=>.val (bif t then a.aR r else b.aR r) h
   | _=>.fail
 | .new z=>gG (.ptr (aj h.next) 0) (gq h z)
 | .box x=>bif (x.aR r).fI then gG (.ptr (aj h.next) 0) (gq h (x.aR r).cells) else .fail
 | .build z bj=>(match jb z (kz r bj) with
   | some cs=>.val (.agg cs) h
   | none=>.fail)
 | .i_ n _ z bj=>match jb (hI z n) (kz r bj) with
   | some cs=>(match gq h cs with
     | some ab=>.val (.slice (aj h.next) 0 n n) ab
     | none=>.fail)
   | none=>.fail
 | .fy x=>a7.of h (nb h (x.aR r))
 | .ff n x=>a7.of h (na n h (x.aR r))
 | .st n x y=>gG .bad (xi n h (x.aR r) (y.aR r))
 | .iR x=>a7.of h (ur (x.aR r))
 | .bin k x y=>a7.of h (k.run P (x.aR r) (y.aR r))
 | .un op x=>a7.of h (rA op (x.aR r))
 | .kf k x=>k.run P (x.aR r) h
 | .fn f eL=>.val (.func f (aU.fN r eL)) h
 | .Ca f first=>.val (.ob f (aU.fN r first)) h
 | .DM t z ok x=>a7.of h (AG t z ok (x.aR r))
 | .sx t x=>.val (.iface t (x.aR r)) h
 | .B' n z l c=>zp n z (l.aR r) (c.aR r) h
 | .rv x bC aq m3=>a7.of h (mw (x.aR r) (aU.opt r bC) (aU.opt r aq) (aU.opt r m3))
 | .fo n x bC aq m3=>a7.of h (match x.aR r with
   | .bU=>CG (aU.opt r bC) (aU.opt r aq) (aU.opt r m3)
   | .slice b off p5 cap=>xf n b off p5 cap (aU.opt r bC) (aU.opt r aq) (aU.opt r m3)
   | .ez b off p5 idx=>uQ n b off p5 idx (aU.opt r bC) (aU.opt r aq) (aU.opt r m3)
   | .ic b off oh idx=>GR b off oh idx (aU.opt r bC) (aU.opt r aq) (aU.opt r m3)
   | _=>none)
 | .e5 off x=>a7.of h ((x.aR r).jK none fun b o=>some (.ptr b (o+off)))
 | .vL off x=>a7.of h (match x.aR r with
   | .agg cs=>cs[off]?
   | _=>none)
 | .vM off n x=>a7.of h (match x.aR r with
   | .agg cs=>some (.agg ((cs.drop off).take n))
   | _=>none)
 | .dD n x i=>a7.of h ((wE n).run (x.aR r) (i.aR r))
 | .o4 n s x i=>a7.of h ((sz n s).run (x.aR r) (i.aR r))
 | .lL x i=>a7.of h (sB.run (x.aR r) (i.aR r))
 | .j4 t x i=>a7.of h ((sA P t).run (x.aR r) (i.aR r))
 | .look k z ok x i=>a7.of h (o_ k.eq z ok h (x.aR r) (i.aR r))
 | .eE k m i x=>gG .bad (kt k.eq h (m.aR r) (i.aR r) (x.aR r))
 | .rj x=>p9 (aU.opt r x) h
 | .zL x=>(match x.aR r with
   | .str s=>.val (.ptr (aj h.next) 0) (h.new (.iter s 0))
   | _=>.fail)
 | .zv x=>wW (x.aR r) h
 | .ext x i=>(match x.aR r with
   | .tuple ag=>a7.of h ag[i]?
   | _=>.fail)
 | .call f args=>call f (aU.fN r args) h
 | .pL f args=>(f.aR r).zx (aU.fN r args) fun g xs=>call g xs h
 | .len k x=>k.run (x.aR r) h
 | .app n s x=>lr n (s.aR r) (x.aR r) h
 | .copy n d s=>copyV n (d.aR r) (s.aR r) h
 | .wS args=>a7.of h (kK (fun b a=>!Int.leB a b) (aU.fN r args))
 | .dV args=>a7.of h (kK (fun b a=>!Int.leB b a) (aU.fN r args))
 | .QG z x=>D' z (x.aR r) h
 | .tC x=>a7.of h (r4 (x.aR r))
 | .x3 n z s x=>x2 n z (s.aR r) (x.aR r) h
 | .rh z ok x i=>a7.of h (je ⟨g' h⟩ z ok h (x.aR r) (i.aR r))
 | .looks k z ok x i=>a7.of h (bif m' P k (i.aR r) then je (structEq P k) z ok h (x.aR r) (i.aR r) else none)
 | .xn m i x=>gG .bad (kt ⟨g' h⟩ h (m.aR r) (i.aR r) (x.aR r))
 | .CP k m i x=>gG .bad (bif m' P k (i.aR r) then kt (structEq P k) h (m.aR r) (i.aR r) (x.aR r) else none)
 | .wR z m i=>ye z (m.aR r) (i.aR r) h
 | .B9 k z m i=>Ek P k z (m.aR r) (i.aR r) h
 | .vK m s x=>gG .bad (tG h (m.aR r) (s.aR r) (x.aR r))
 | .CC x=>rangeMap (x.aR r) h
 | .Cg x=>gU (x.aR r) h
 | .A2 x=>A3 (x.aR r) h
 | .peq neg x y=>a7.of h (uF neg h (x.aR r) (y.aR r))
def MN (P:Program) (op:BinOp) (t:TypeId):eK:=
 match op with
 | .shl=>.shl
 | .shr=>.shr
 | op=>match a' P t with
   | none=>.other op t
   | some aP=>match aP.bg with
     | .int _=>.int op
     | .string=>.str op
     | .bool=>(match op with
       | .eql=>.yi false
       | .neq=>.yi true
       | _=>.other op t)
     | .pointer _=>(match op with
       | .eql=>.jx false 1
       | .neq=>.jx true 1
       | _=>.other op t)
     | .slice _=>(match op with
       | .eql=>.jx false 2
       | .neq=>.jx true 2
       | _=>.other op t)
     | .map _ _=>(match op with
       | .eql=>.jx false 3
       | .neq=>.jx true 3
       | _=>.other op t)
     | .func _ _ _=>(match op with
       | .eql=>.jx false 4
       | .neq=>.jx true 4
       | _=>.other op t)
     | _=>.other op t
def MS (P:Program) (op:BinOp) (t:TypeId) (lit:Bool):eK:=
 bif lit then (match a' P t with
  | some aP=>match aP.bg with
    | .interface _=>match op with
      | .eql=>.jx false 5
      | .neq=>.jx true 5
      | _=>.jx false 99
    | _=>.jx false 99
  | none=>.jx false 99) else MN P op t
def MQ (P:Program) (s d:TypeId):te:=
 match a' P s,a' P d with
 | some uP,some oH=>match oH.bg with
   | .int k=>.int k
   | .string=>match uP.bg with
     | .slice e=>match a' P e with
       | some a_=>match a_.bg with
         | .int .u8=>.str
         | _=>.other s d
       | none=>.other s d
     | _=>.other s d
   | .slice e=>match a' P e with
     | some a_=>match a_.bg with
       | .int .u8=>.bytes
       | _=>.other s d
     | none=>.other s d
   | _=>.other s d
 | _,_=>.other s d
def qg (place:Nat->Option (Nat × Nat)):List (Nat × Operand)->Option (List (Nat × Nat × aU))
 | []=>some []
 | (i,x)::bj=>match place i with
   | none=>none
   | some (off,size)=>match qg place bj with
     | none=>none
     | some l=>some ((off,size,rx x)::l)
def Wf (P:Program) (t:TypeId) (bj:List (Nat × Operand)):G:=
 match a' P t with
 | some aP=>match aP.zero with
   | some z=>match aP.bg with
     | .struct cl=>bif Ey P cl.toList then (match qg (ym P cl) bj with
       | some l=>.build z.cells l
       | none=>.bad) else .bad
     | .array _ e=>match a' P e with
       | some a_=>(match qg (fun i=>some (i * a_.size,a_.size)) bj with
         | some l=>.build z.cells l
         | none=>.bad)
       | none=>.bad
     | _=>.bad
   | none=>.bad
 | none=>.bad
def Wi (P:Program) (t:TypeId) (len:Nat) (bj:List (Nat × Operand)):G:=
 match a' P t with
 | some aP=>match aP.bg with
   | .slice e=>match a' P e with
     | some a_=>match a_.zero with
       | some z=>bif Nat.ble (len * a_.size) 1000000&&Nat.beq z.cells.length a_.size then
          (match qg (fun i=>some (i * a_.size,a_.size)) bj with
          | some l=>.i_ len a_.size z.cells l
          | none=>.bad) else .bad
       | none=>.bad
     | none=>.bad
   | _=>.bad
 | none=>.bad
def wI:TypeDesc->Option jR
 | .int _=>some .int
 | .string=>some .str
 | .bool=>some .bool
 | _=>none
def Jh (P:Program) (t:TypeId):Option (List V):=
 match a' P t with
 | some aP=>match aP.bg with
   | .slice e=>match a' P e with
     | some a_=>match a_.zero with
       | some z=>some z.cells
       | none=>none
     | none=>none
   | _=>none
 | none=>none
theorem abZ (P:Program) (t:TypeId):AU P t=Jh P t:=rfl
def MP (P:Program) (c:Call):G:=
 match c.callee with
 | .value (.func f)=>bif Nat.beq f dt then .bad else .call f (nn c.args.toList)
 | .value x=>.pL (rx x) (nn c.args.toList)
 | .invoke _ _=>.bad
 | .builtin b=>match b with
   | .len=>match c.argTypes.toList,c.args.toList with
     | [t],[x]=>(match a' P t with
       | some aP=>(match aP.bg with
         | .map _ _=>.len .map (rx x)
         | .array n _=>.len (.arr n) (rx x)
         | .string=>.len .str (rx x)
         | .slice _=>.len .slice (rx x)
         | _=>.bad)
       | none=>.bad)
     | _,_=>.bad
   | .append=>match c.argTypes.toList,c.args.toList with
     | [t,u],[s,x]=>(match a' P t,a' P u with
       | some aP,some s9=>(match s9.bg with
         | .int _=>(match aP.bg with
           | .slice e=>(match a' P e with
             | none=>.bad
             | some a_=>match a_.zero with
               | none=>.bad
               | some z=>bif Nat.ble 1 a_.size&&Nat.ble a_.bytes 4096&&Nat.beq z.cells.length a_.size then .x3 a_.size z.cells (rx s) (rx x) else .bad)
           | _=>.bad)
         | _=>match aP.bg with
           | .slice e=>(match a' P e with
             | none=>.bad
             | some a_=>match a_.zero with
               | none=>.bad
               | some z=>bif Nat.ble 1 a_.size&&Nat.ble a_.bytes 4096&&Nat.beq z.cells.length a_.size then .app a_.size (rx s) (rx x) else .bad)
           | _=>.bad)
       | _,_=>.bad)
     | _,_=>.bad
   | .copy=>match c.argTypes.toList,c.args.toList with
     | t::_,[d,s]=>(match a' P t with
       | some aP=>(match aP.bg with
         | .slice e=>(match a' P e with
           | some a_=>.copy a_.size (rx d) (rx s)
           | none=>.bad)
         | _=>.bad)
       | none=>.bad)
     | _,_=>.bad
   | .min=>.wS (nn c.args.toList)
   | .max=>.dV (nn c.args.toList)
   | .clear=>match c.argTypes.toList,c.args.toList with
     | [t],[x]=>(match Jh P t with
       | some z=>.QG z (rx x)
       | none=>.bad)
     | _,_=>.bad
   | .cap=>match c.argTypes.toList,c.args.toList with
     | [t],[x]=>(match a' P t with
       | some aP=>bif BS aP.bg then .tC (rx x) else .bad
       | none=>.bad)
     | _,_=>.bad
   | _=>.bad
def GC (P:Program) (op:Op):G:=
 match op with
 | .move x=>.bz (rx x)
 | .assign x=>.bz (rx x)
 | .pick c a b=>.pick (rx c) (rx a) (rx b)
 | .alloc t=>(match a' P t with
   | some aP=>(match aP.zero with
     | some z=>.new z.cells
     | none=>.bad)
   | none=>.bad)
 | .box _ x=>.box (rx x)
 | .build t bj=>Wf P t bj.toList
 | .buildSlice t n bj=>Wi P t n bj.toList
 | .load t x=>(match a' P t with
   | none=>.bad
   | some aP=>bif aP.agg then .ff aP.size (rx x) else bif Nat.beq aP.size 1 then .fy (rx x) else .bad)
 | .store t x y=>(match a' P t with
   | none=>.bad
   | some aP=>.st aP.size (rx x) (rx y))
 | .nilCheck x=>.iR (rx x)
 | .binOp op t x y _=>.bin (MS P op t (rf x||rf y)) (rx x) (rx y)
 | .unOp op _ x=>.un op (rx x)
 | .convert s d x=>.kf (MQ P s d) (rx x)
 | .makeFunc (.func f) first eL=>bif first.isEmpty&&!Nat.beq f dt then .fn f (nn eL.toList) else bif eL.isEmpty&&!Nat.beq f dt then .Ca f (nn first.toList) else .bad
 | .makeInterface t x=>(match a' P t with
   | some aP=>bif Nat.beq (e9 aP.bg) 5 then .bad else .sx t (rx x)
   | none=>.bad)
 | .makeSlice t l c=>(match a' P t with
   | some aP=>(match aP.bg with
     | .slice e=>(match a' P e with
       | some a_=>(match a_.zero with
         | some z=>bif Nat.ble a_.bytes 4096 then .B' a_.size z.cells (rx l) (rx c) else .bad
         | none=>.bad)
       | none=>.bad)
     | _=>.bad)
   | none=>.bad)
 | .slice t x bC aq dV=>(match a' P t with
   | none=>.bad
   | some aP=>match aP.bg with
     | .string=>.rv (rx x) (sY bC) (sY aq) (sY dV)
     | .slice e=>(match a' P e with
       | none=>.bad
       | some a_=>.fo a_.size (rx x) (sY bC) (sY aq) (sY dV))
     | _=>.bad)
 | .fieldAddr t x i=>(match qS P t i with
   | none=>.bad
   | some f=>match a' P f.type with
     | none=>.bad
     | some kB=>bif Nat.beq kB.size 0 then .bad else .e5 f.offset (rx x))
 | .field t x i=>(match qS P t i with
   | none=>.bad
   | some f=>match a' P f.type with
     | none=>.bad
     | some aP=>bif aP.agg then .vM f.offset aP.size (rx x) else .vL f.offset (rx x))
 | .indexAddr t x i=>(match a' P t with
   | none=>.bad
   | some aP=>match aP.bg with
     | .slice e=>(match a' P e with
       | none=>.bad
       | some a_=>.dD a_.size (rx x) (rx i))
     | .array n e=>(match a' P e with
       | none=>.bad
       | some a_=>.o4 n a_.size (rx x) (rx i))
     | _=>.bad)
 | .index t x i=>(match a' P t with
   | none=>.bad
   | some aP=>match aP.bg with
     | .string=>.lL (rx x) (rx i)
     | _=>.j4 t (rx x) (rx i))
 | .range t x=>(match a' P t with
   | some aP=>(match aP.bg with
     | .string=>.zL (rx x)
     | .map _ _=>.CC (rx x)
     | _=>.bad)
   | none=>.bad)
 | .next it s=>bif s then .zv (rx it) else .Cg (rx it)
 | .entry it=>.A2 (rx it)
 | .lookup t x k ok=>(match a' P t with
   | some aP=>(match aP.bg with
     | .map bo e=>(match a' P bo with
       | some gC=>(match a' P e with
         | some a_=>(match a_.zero with
           | some z=>(match wI gC.bg with
             | some c'=>.look c' z ok (rx x) (rx k)
             | none=>bif kH gC.bg then .bad else bif jf P bo then .rh z ok (rx x) (rx k) else bif lV P bo then .looks bo z ok (rx x) (rx k) else .bad)
           | none=>.bad)
         | none=>.bad)
       | none=>.bad)
     | _=>.bad)
   | none=>.bad)
 | .mapUpdate t m k x | .insert t m k x=>(match a' P t with
   | some aP=>(match aP.bg with
     | .map bo _=>(match a' P bo with
       | some gC=>(match wI gC.bg with
         | some c'=>.eE c' (rx m) (rx k) (rx x)
         | none=>bif kH gC.bg then .bad else bif jf P bo then .xn (rx m) (rx k) (rx x) else bif lV P bo then .CP bo (rx m) (rx k) (rx x) else .bad)
       | none=>.bad)
     | _=>.bad)
   | none=>.bad)
 | .mapEntry t m k=>(match a' P t with
   | some aP=>(match aP.bg with
     | .map bo e=>(match a' P e with
       | some a_=>(match a_.zero with
         | some z=>bif jf P bo then .wR z (rx m) (rx k) else bif lV P bo then .B9 bo z (rx m) (rx k) else .bad
         | none=>.bad)
       | none=>.bad)
     | _=>.bad)
   | none=>.bad)
 | .entryStore _ m st x=>.vK (rx m) (rx st) (rx x)
 | .makeMap t x=>(match a' P t with
   | some aP=>bif Nat.beq (e9 aP.bg) 3 then .rj (sY x) else .bad
   | none=>.bad)
 | .extract x i=>.ext (rx x) i
 | .typeAssert x _ t ok=>(match a' P t with
   | some aP=>bif Nat.beq (e9 aP.bg) 5 then .bad else .DM t aP.zero ok (rx x)
   | none=>.bad)
 | .call c=>MP P c
 | _=>.bad
def d' (b_:bB):bc:=fun t=>T.get .bad (aj t) b_
theorem eX (b_:bB) (x:Operand):(bQ x).run b_=(rx x).aR (d' b_):=by
 cases x with
 | tmp t=>
   simp only [bQ,rx];cases Nat.ble t top<;>rfl
 | const v=>rfl
 | func f=>
   simp only [bQ,rx];cases Nat.beq f dt<;>rfl
 | global g=>rfl
theorem yk (b_:bB):∀xs:List Operand,(qP xs).run b_=aU.fN (d' b_) (nn xs)
 | []=>rfl
 | x::xs=>by simp only [qP,nn,aU.fN,eX,yk b_ xs]
theorem Mb (b_:bB) (x:Option Operand):(rl x).run b_=aU.opt (d' b_) (sY x):=by
 cases x with
 | none=>rfl
 | some x=>simp only [rl,sY,aU.opt,eX]
theorem Ez (b_:bB) {place:Nat->Option (Nat × Nat)}:∀{bj:List (Nat × Operand)} {l:List (Nat × Nat × aU)},qg place bj=some l->∀cells,mH place cells ((uz bj).run b_)=jb cells (kz (d' b_) l)
 | [],l,h,cells=>by simp only [qg,Option.some.injEq] at h;subst h;rfl
 | (i,x)::bj,l,h,cells=>by
   simp only [qg] at h;cases af:place i with
   | none=>rw [af] at h;cases h
   | some os=>
     obtain ⟨off,size⟩:=os;rw [af] at h;simp only at h;cases az:qg place bj with
     | none=>rw [az] at h;cases h
     | some cG=>
       rw [az] at h;simp only [Option.some.injEq] at h;subst h;simp only [uz,mH,af,kz,jb,eX];cases ((rx x).aR (d' b_)).fI&&(Nat.beq ((rx x).aR (d' b_)).cells.length size&&Nat.ble (off + ((rx x).aR (d' b_)).cells.length) cells.length) with
       | false=>rfl
       | true=>exact Ez b_ az _
section
variable {P:Program}
theorem amn (op:BinOp) (t:TypeId):(MN P op t).run P=(rZ P op t).run:=by
 unfold MN rZ;cases op<;>first | rfl | skip
 all_goals
  cases au:a' P t with
  | none=>simp only [eK.run];unfold rZ;rw [au]
  | some aP=>
    simp only;cases hu:aP.bg<;>first | rfl | (simp only [eK.run];unfold rZ;rw [au];simp only [hu];done) | (simp only [eK.run];unfold pQ hB;simp only [au,hu];first | done | rfl)
theorem amq (op:BinOp) (t:TypeId) (lit:Bool):(MS P op t lit).run P=(AI P op t lit).run:=by
 unfold MS AI;cases lit with
 | false=>simp only [cond_false];exact amn op t
 | true=>
   simp only [cond_true];cases a' P t with
   | none=>rfl
   | some aP=>
     simp only;cases aP.bg<;>first | rfl | (cases op<;>rfl)
theorem amp (s d:TypeId):(MQ P s d).run P=(qJ P s d).run:=by
 unfold MQ
 split
 . rename_i uP oH aM bb
   split
   . rename_i k hu;simp only [te.run];unfold qJ;rw [aM,bb];simp only [hu]
   . rename_i hu
     split
     . rename_i e ba
       split
       . rename_i a_ he
         split
         . rename_i hw;simp only [te.run];unfold qJ;rw [aM,bb];simp only [hu,ba,he,hw]
         . rfl
       . rfl
     . rfl
   . rename_i e hu
     split
     . rename_i a_ he
       split
       . rename_i hw;simp only [te.run];unfold qJ;rw [aM,bb];simp only [hu,he,hw]
       . rfl
     . rfl
   . rfl
 . rfl
theorem Lt {d:TypeDesc} {c':jR} (h:wI d=some c'):kH d=true/\k9 d=c'.eq:=by cases d<;>simp only [wI] at h<;>first | (cases h;done) | (cases h;exact ⟨rfl,rfl⟩)
theorem amo {c:Call} {call:dJ} {b_:bB} {h ab:ah} {v:V} (he:(MP P c).run P call (d' b_) h=.val v ab):(r2 P c).run call b_ h=.val v ab:=by
 unfold MP at he;unfold r2
 split at he
 . rename_i f aC;rw [aC];cases a1:Nat.beq f dt with
   | true=>rw [a1] at he;cases he
   | false=>
     rw [a1] at he;simp only [cond_false,G.run] at he;simpa only [bQ,a1,cond_false,qO,V.zx,yk,List.append_nil] using he
 . rename_i x ai aC;rw [aC];simp only [G.run] at he;simpa only [eX,yk] using he
 . cases he
 . rename_i b aC;rw [aC];simp only [yk];cases b<;>simp only at he<;>try (cases he;done)
   case len=>
    split at he
    . rename_i t x au ai;cases j3:a' P t with
      | none=>rw [j3] at he;cases he
      | some aP=>
        rw [j3] at he;simp only at he;simp only [qH,au,j3,ai,nn,aU.fN];cases hu:aP.bg<;>rw [hu] at he<;>first | (cases he;done) | (simpa only [ui,cond_true,cond_false,G.run,Dm.run,o9,a7.of] using he)
    . cases he
   case append=>
    split at he
    . rename_i t u s x au ai
      split at he
      . rename_i aP s9 j3 y5;simp only [qH,au,ai,nn,aU.fN,DH,j3,y5]
        split at he
        . rename_i k agd
          split at he
          . rename_i e cq;cases eH:a' P e with
            | none=>rw [eH] at he;cases he
            | some a_=>
              rw [eH] at he;simp only at he;cases bn:a_.zero with
              | none=>rw [bn] at he;cases he
              | some z=>
                rw [bn] at he;simp only at he;cases ae:(Nat.ble 1 a_.size&&Nat.ble a_.bytes 4096&&Nat.beq z.cells.length a_.size) with
                | false=>rw [ae] at he;cases he
                | true=>
                  rw [ae] at he;simp only [cond_true,G.run] at he;simp only [agd,cq,eH,bn,ae,cond_true];exact he
          . cases he
        . rename_i cR
          split at he
          . rename_i e cq;cases eH:a' P e with
            | none=>rw [eH] at he;cases he
            | some a_=>
              rw [eH] at he;simp only at he;cases bn:a_.zero with
              | none=>rw [bn] at he;cases he
              | some z=>
                rw [bn] at he;simp only at he;cases ae:(Nat.ble 1 a_.size&&Nat.ble a_.bytes 4096&&Nat.beq z.cells.length a_.size) with
                | false=>rw [ae] at he;cases he
                | true=>
                  rw [ae] at he;simp only [cond_true,G.run] at he;cases Lb:s9.bg<;>first
                   | (exact absurd Lb (cR _))
                   | (simp only [cq,eH,bn,ae,cond_true];exact he)
          . cases he
      . cases he
    . cases he
   case copy=>
    split at he
    . rename_i t cJ d s au ai;cases j3:a' P t with
      | none=>rw [j3] at he;cases he
      | some aP=>
        rw [j3] at he;simp only at he
        split at he
        . rename_i e cq;cases eH:a' P e with
          | none=>rw [eH] at he;cases he
          | some a_=>
            rw [eH] at he;simp only [G.run] at he;simp only [qH,au,ai,nn,aU.fN,D_,j3,cq,eH];exact he
        . cases he
    . cases he
   case min=>exact he
   case max=>exact he
   case clear=>
    split at he
    . rename_i t x au ai;cases aC:Jh P t with
      | none=>rw [aC] at he;cases he
      | some z=>
        rw [aC] at he;simp only [G.run] at he;simp only [qH,au,ai,nn,aU.fN,abZ,aC];exact he
    . cases he
   case cap=>
    split at he
    . rename_i t x au ai;cases j3:a' P t with
      | none=>rw [j3] at he;cases he
      | some aP=>
        rw [j3] at he;simp only at he;cases ae:BS aP.bg with
        | false=>rw [ae] at he;cases he
        | true=>
          rw [ae] at he;simp only [cond_true,G.run] at he;simp only [qH,au,ai,nn,aU.fN,j3,ae,cond_true];exact he
    . cases he
theorem Wg {o:Oper} {call:dJ} {b_:bB} {h ab:ah} {v:V} (he:(GC P o.op).run P call (d' b_) h=.val v ab):(fi P o).run call b_ h=.val v ab:=by
 obtain ⟨dst,op,type,pos,after,guard⟩:=o;cases op<;>simp only [GC] at he<;>try (cases he;done)
 all_goals simp only [fi]
 case move x=>simpa only [eX,G.run] using he
 case assign x=>simpa only [eX,G.run] using he
 case pick c a b=>
  simp only [eX,G.run] at he ⊢;generalize (rx c).aR (d' b_)=q at he ⊢;cases q<;>exact he
 case alloc t=>
  cases au:a' P t with
  | none=>rw [au] at he;cases he
  | some aP=>
    rw [au] at he;simp only at he ⊢;cases bn:aP.zero with
    | none=>rw [bn] at he;cases he
    | some z=>rw [bn] at he;exact he
 case box t x=>simpa only [eX,G.run] using he
 case build t bj=>
  unfold Wf at he;unfold DU;cases au:a' P t with
  | none=>rw [au] at he;cases he
  | some aP=>
    rw [au] at he;simp only at he ⊢;cases bn:aP.zero with
    | none=>rw [bn] at he;cases he
    | some z=>
      rw [bn] at he;simp only at he ⊢;cases hu:aP.bg<;>rw [hu] at he<;>simp only at he ⊢<;>try (cases he;done)
      . rename_i n e;cases eH:a' P e with
        | none=>rw [eH] at he;cases he
        | some a_=>
          rw [eH] at he;simp only at he ⊢;cases af:qg (fun i=>some (i * a_.size,a_.size)) bj.toList with
          | none=>rw [af] at he;cases he
          | some l=>
            rw [af] at he;simp only [G.run] at he;rw [Ez b_ af];cases aB:jb z.cells (kz (d' b_) l) with
            | none=>rw [aB] at he;cases he
            | some cs=>rw [aB] at he;exact he
      . rename_i cl;cases aD:Ey P cl.toList with
        | false=>rw [aD] at he;cases he
        | true=>
          rw [aD] at he;simp only [cond_true] at he ⊢;cases af:qg (ym P cl) bj.toList with
          | none=>rw [af] at he;cases he
          | some l=>
            rw [af] at he;simp only [G.run] at he;rw [Ez b_ af];cases aB:jb z.cells (kz (d' b_) l) with
            | none=>rw [aB] at he;cases he
            | some cs=>rw [aB] at he;exact he
 case buildSlice t n bj=>
  unfold Wi at he;unfold vv;cases au:a' P t with
  | none=>rw [au] at he;cases he
  | some aP=>
    rw [au] at he;simp only at he ⊢;cases hu:aP.bg<;>rw [hu] at he<;>simp only at he ⊢<;>try (cases he;done)
    rename_i e;cases eH:a' P e with
    | none=>rw [eH] at he;cases he
    | some a_=>
      rw [eH] at he;simp only at he ⊢;cases bn:a_.zero with
      | none=>rw [bn] at he;cases he
      | some z=>
        rw [bn] at he;simp only at he ⊢;cases ae:(Nat.ble (n * a_.size) 1000000&&Nat.beq z.cells.length a_.size) with
        | false=>rw [ae] at he;cases he
        | true=>
          rw [ae] at he;simp only [cond_true] at he ⊢;cases af:qg (fun i=>some (i * a_.size,a_.size)) bj.toList with
          | none=>rw [af] at he;cases he
          | some l=>
            rw [af] at he;simp only [G.run] at he;rw [Ez b_ af];exact he
 case load t x=>
  unfold p6;cases au:a' P t with
  | none=>rw [au] at he;cases he
  | some aP=>
    rw [au] at he;simp only at he ⊢;cases aV:aP.agg with
    | true=>rw [aV] at he;simpa only [cond_true,eX,G.run] using he
    | false=>
      rw [aV] at he;simp only [cond_false] at he ⊢;cases aM:Nat.beq aP.size 1 with
      | true=>rw [aM] at he;simpa only [cond_true,eX,G.run] using he
      | false=>rw [aM] at he;cases he
 case store t x y=>
  unfold sZ;cases au:a' P t with
  | none=>rw [au] at he;cases he
  | some aP=>rw [au] at he;simpa only [eX,G.run] using he
 case nilCheck x=>simpa only [eX,G.run] using he
 case binOp op t x y t2=>simpa only [eX,G.run,amq] using he
 case unOp op t x=>simpa only [eX,G.run] using he
 case convert s d x=>simpa only [eX,G.run,amp] using he
 case makeFunc fn first eL=>
  cases fn<;>simp only at he<;>try (cases he;done)
  simp only;cases aB:(first.isEmpty&&!Nat.beq _ dt) with
  | true=>rw [aB] at he;simpa only [cond_true,yk,G.run] using he
  | false=>
    rw [aB] at he;simp only [cond_false] at he ⊢;cases jz:(eL.isEmpty&&!Nat.beq _ dt) with
    | true=>rw [jz] at he;simpa only [cond_true,yk,G.run] using he
    | false=>rw [jz] at he;cases he
 case typeAssert x uX t ok=>
  cases au:a' P t with
  | none=>rw [au] at he;cases he
  | some aP=>
    rw [au] at he;simp only at he ⊢;cases ae:Nat.beq (e9 aP.bg) 5 with
    | true=>rw [ae] at he;cases he
    | false=>rw [ae] at he;simpa only [cond_false,eX,G.run] using he
 case makeInterface t x=>
  cases au:a' P t with
  | none=>rw [au] at he;cases he
  | some aP=>
    rw [au] at he;simp only at he ⊢;cases ae:Nat.beq (e9 aP.bg) 5 with
    | true=>rw [ae] at he;cases he
    | false=>rw [ae] at he;simpa only [cond_false,eX,G.run] using he
 case makeSlice t l c=>
  unfold wO;cases au:a' P t with
  | none=>rw [au] at he;cases he
  | some aP=>
    rw [au] at he;simp only at he ⊢;cases hu:aP.bg<;>rw [hu] at he<;>simp only at he ⊢<;>try (cases he;done)
    rename_i e;cases eH:a' P e with
    | none=>rw [eH] at he;cases he
    | some a_=>
      rw [eH] at he;simp only at he ⊢;cases bn:a_.zero with
      | none=>rw [bn] at he;cases he
      | some z=>
        rw [bn] at he;simp only at he ⊢;cases ae:Nat.ble a_.bytes 4096 with
        | false=>rw [ae] at he;cases he
        | true=>rw [ae] at he;simpa only [cond_true,eX,G.run] using he
 case slice t x bC aq m3=>
  unfold GQ;cases au:a' P t with
  | none=>rw [au] at he;cases he
  | some aP=>
    rw [au] at he;simp only at he ⊢;cases hu:aP.bg<;>rw [hu] at he<;>simp only at he ⊢<;>try (cases he;done)
    . simpa only [eX,Mb,G.run] using he
    . rename_i e;cases eH:a' P e with
      | none=>rw [eH] at he;cases he
      | some a_=>
        rw [eH] at he;simp only [eX,Mb,G.run] at he ⊢;generalize (rx x).aR (d' b_)=q at he ⊢;cases q<;>exact he
 case fieldAddr t x i=>
  unfold Ev;cases aB:qS P t i with
  | none=>rw [aB] at he;cases he
  | some f=>
    rw [aB] at he;simp only at he ⊢;cases au:a' P f.type with
    | none=>rw [au] at he;cases he
    | some kB=>
      rw [au] at he;simp only at he ⊢;cases ae:Nat.beq kB.size 0 with
      | true=>rw [ae] at he;cases he
      | false=>rw [ae] at he;simpa only [cond_false,eX,G.run] using he
 case field t x i=>
  unfold Ew;cases aB:qS P t i with
  | none=>rw [aB] at he;cases he
  | some f=>
    rw [aB] at he;simp only [qe] at he ⊢;cases au:a' P f.type with
    | none=>rw [au] at he;cases he
    | some kB=>
      rw [au] at he;simp only at he ⊢;cases ae:kB.agg with
      | true=>
        rw [ae] at he;simp only [cond_true,eX,G.run] at he ⊢;generalize (rx x).aR (d' b_)=q at he ⊢;cases q<;>exact he
      | false=>
        rw [ae] at he;simp only [cond_false,eX,G.run] at he ⊢;generalize (rx x).aR (d' b_)=q at he ⊢;cases q<;>exact he
 case indexAddr t x i=>
  unfold FE;cases au:a' P t with
  | none=>rw [au] at he;cases he
  | some aP=>
    rw [au] at he;simp only at he ⊢;cases hu:aP.bg<;>rw [hu] at he<;>simp only at he ⊢<;>try (cases he;done)
    all_goals
     rename_i e;cases eH:a' P e with
     | none=>rw [eH] at he;cases he
     | some a_=>rw [eH] at he;simpa only [eX,G.run] using he
 case index t x i=>
  cases au:a' P t with
  | none=>rw [au] at he;cases he
  | some aP=>
    rw [au] at he;simp only at he;cases hu:aP.bg<;>rw [hu] at he<;>simp only [G.run] at he
    case string=>
     unfold sA;rw [au];simp only [hu];simpa only [eX] using he
    all_goals simpa only [eX] using he
 case range t x=>
  unfold Gz;cases au:a' P t with
  | none=>rw [au] at he;cases he
  | some aP=>
    rw [au] at he;simp only at he ⊢;cases hu:aP.bg<;>rw [hu] at he<;>simp only at he ⊢<;>try (cases he;done)
    all_goals simp only [eX,G.run] at he ⊢
    all_goals first
     | exact he
     | (generalize (rx x).aR (d' b_)=q at he ⊢
        cases q<;>exact he)
 case next it b=>
  cases b<;>simpa only [cond_true,cond_false,eX,G.run] using he
 case entry it=>simpa only [eX,G.run] using he
 case mapEntry t m k=>
  unfold F0;cases au:a' P t with
  | none=>rw [au] at he;cases he
  | some aP=>
    rw [au] at he;simp only at he ⊢;cases hu:aP.bg<;>rw [hu] at he<;>simp only at he ⊢<;>try (cases he;done)
    rename_i bo e;cases eH:a' P e with
    | none=>rw [eH] at he;cases he
    | some a_=>
      rw [eH] at he;simp only at he ⊢;cases bn:a_.zero with
      | none=>rw [bn] at he;cases he
      | some z=>
        rw [bn] at he;simp only at he ⊢;cases af:jf P bo with
        | true=>rw [af] at he;simpa only [cond_true,eX,G.run] using he
        | false=>
          rw [af] at he;simp only [cond_false] at he ⊢;cases aM:lV P bo with
          | true=>rw [aM] at he;simpa only [cond_true,eX,G.run] using he
          | false=>rw [aM] at he;cases he
 case entryStore t m st x=>simpa only [eX,G.run] using he
 case lookup t x k ok=>
  unfold FZ;cases au:a' P t with
  | none=>rw [au] at he;cases he
  | some aP=>
    rw [au] at he;simp only at he ⊢;cases hu:aP.bg<;>rw [hu] at he<;>simp only at he ⊢<;>try (cases he;done)
    rename_i bo e;cases aD:a' P bo with
    | none=>rw [aD] at he;cases he
    | some gC=>
      rw [aD] at he;simp only at he ⊢;cases eH:a' P e with
      | none=>rw [eH] at he;cases he
      | some a_=>
        rw [eH] at he;simp only at he ⊢;cases bn:a_.zero with
        | none=>rw [bn] at he;cases he
        | some z=>
          rw [bn] at he;simp only at he ⊢;cases kj:wI gC.bg with
          | none=>
            rw [kj] at he;simp only at he ⊢;cases aB:kH gC.bg with
            | true=>rw [aB] at he;cases he
            | false=>
              rw [aB] at he;simp only [cond_false] at he ⊢;cases af:jf P bo with
              | true=>rw [af] at he;simpa only [cond_true,eX,G.run] using he
              | false=>
                rw [af] at he;simp only [cond_false] at he ⊢;cases aM:lV P bo with
                | true=>rw [aM] at he;simpa only [cond_true,eX,G.run] using he
                | false=>rw [aM] at he;cases he
          | some c'=>
            rw [kj] at he;obtain ⟨ao,ax⟩:=Lt kj;simp only [ao,ax,cond_true];simpa only [eX,G.run] using he
 case mapUpdate t m k x=>
  unfold pt;cases au:a' P t with
  | none=>rw [au] at he;cases he
  | some aP=>
    rw [au] at he;simp only at he ⊢;cases hu:aP.bg<;>rw [hu] at he<;>simp only at he ⊢<;>try (cases he;done)
    rename_i bo e;cases aD:a' P bo with
    | none=>rw [aD] at he;cases he
    | some gC=>
      rw [aD] at he;simp only at he ⊢;cases kj:wI gC.bg with
      | none=>
        rw [kj] at he;simp only at he ⊢;cases aB:kH gC.bg with
        | true=>rw [aB] at he;cases he
        | false=>
          rw [aB] at he;simp only [cond_false] at he ⊢;cases af:jf P bo with
          | true=>rw [af] at he;simpa only [cond_true,eX,G.run] using he
          | false=>
            rw [af] at he;simp only [cond_false] at he ⊢;cases aM:lV P bo with
            | true=>rw [aM] at he;simpa only [cond_true,eX,G.run] using he
            | false=>rw [aM] at he;cases he
      | some c'=>
        rw [kj] at he;obtain ⟨ao,ax⟩:=Lt kj;simp only [ao,ax,cond_true];simpa only [eX,G.run] using he
 case insert t m k x=>
  unfold pt;cases au:a' P t with
  | none=>rw [au] at he;cases he
  | some aP=>
    rw [au] at he;simp only at he ⊢;cases hu:aP.bg<;>rw [hu] at he<;>simp only at he ⊢<;>try (cases he;done)
    rename_i bo e;cases aD:a' P bo with
    | none=>rw [aD] at he;cases he
    | some gC=>
      rw [aD] at he;simp only at he ⊢;cases kj:wI gC.bg with
      | none=>
        rw [kj] at he;simp only at he ⊢;cases aB:kH gC.bg with
        | true=>rw [aB] at he;cases he
        | false=>
          rw [aB] at he;simp only [cond_false] at he ⊢;cases af:jf P bo with
          | true=>rw [af] at he;simpa only [cond_true,eX,G.run] using he
          | false=>
            rw [af] at he;simp only [cond_false] at he ⊢;cases aM:lV P bo with
            | true=>rw [aM] at he;simpa only [cond_true,eX,G.run] using he
            | false=>rw [aM] at he;cases he
      | some c'=>
        rw [kj] at he;obtain ⟨ao,ax⟩:=Lt kj;simp only [ao,ax,cond_true];simpa only [eX,G.run] using he
 case makeMap t x=>
  unfold zo;cases au:a' P t with
  | none=>rw [au] at he;cases he
  | some aP=>
    rw [au] at he;simp only at he ⊢;cases ae:Nat.beq (e9 aP.bg) 3 with
    | false=>rw [ae] at he;cases he
    | true=>rw [ae] at he;simpa only [cond_true,Mb,G.run] using he
 case extract x i=>
  simp only [eX,G.run] at he ⊢;generalize (rx x).aR (d' b_)=q at he ⊢;cases q<;>exact he
 case call c=>exact amo he
end
end
end Go.Proofs.YthemdhlheglhoaaGreatDoor.aY
