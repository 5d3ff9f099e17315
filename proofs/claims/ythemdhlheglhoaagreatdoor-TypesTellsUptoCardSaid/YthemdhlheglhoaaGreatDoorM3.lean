/- The abstract machine and its walks (a verified interpreter of the model's code: plain definitions and lemmas, no condition). Printed by a program from longer texts: names made short. -/
import Derived.Test.YthemdhlheglhoaaGreatDoorM2
import Derived.Scope
import Derived.RangeFuncRecord
set_option linter.unusedSectionVars false
set_option linter.unusedSimpArgs false
set_option linter.unusedVariables false
namespace Go.Proofs.YthemdhlheglhoaaGreatDoor.aX
variable [Lay]
open Go Go.RowKit
theorem BD {α:Type} (p q:α→Bool):∀(l:List α),(∀x ∈ l,q x=true→p x=true)→(∃x ∈ l,p x=true∧q x=false)→l.countP q<l.countP p
 | [],_,h=>by obtain ⟨x,aq,_⟩:=h;simp at aq
 | a::l,ab,ae=>by
   have hle:l.countP q≤l.countP p:=List.countP_mono_left fun x aq=>ab x (by simp [aq])
   obtain ⟨x,aq,ah,aA⟩:=ae
   simp only [List.mem_cons] at aq
   rcases aq with rfl | aq
   · rw [List.countP_cons,List.countP_cons,ah,aA]
     simp
     omega
   · have bk:=BD p q l (fun y a_=>ab y (by simp [a_])) ⟨x,aq,ah,aA⟩
     have bq:=ab a (by simp)
     rw [List.countP_cons,List.countP_cons]
     cases adp:q a with
     | true=>rw [bq adp];simp;omega
     | false=>simp;omega
theorem vK (e:Edge):Region.binds .any e=tx e:=by
 unfold Region.binds tx
 cases e.ground<;>rfl
section
variable {P:Program}
theorem sG {order:List Nat}:∀{bg:List Nat} {k j p:Nat},Am order k bg=true→bg[j]? =some p→order[p]? =some (k+j)
 | [],_,j,p,_,h=>by simp at h
 | q::bg,k,j,p,ah,h=>by
   simp only [Am,Bool.and_eq_true] at ah
   cases j with
   | zero=>
     simp only [List.getElem?_cons_zero,Option.some.injEq] at h
     subst h
     have ab:=ah.1
     cases aA:order[q]? with
     | none=>rw [aA] at ab;cases ab
     | some i=>rw [aA] at ab;rw [Nat.beq_eq] at ab;rw [ab];rfl
   | succ j=>
     have:=sG ah.2 (show bg[j]? =some p by simpa using h)
     rw [this]
     congr 1
     omega
theorem l7 {ops:Array Oper}:∀{order:List Nat} {p i:Nat} {o:Oper},order[p]? =some i→ops[i]? =some o→(gK ops order)[p]? =some o
 | [],p,i,o,h,_=>by simp at h
 | x::xs,p,i,o,h,aT=>by
   cases p with
   | zero=>
     simp only [List.getElem?_cons_zero,Option.some.injEq] at h
     subst h
     simp [gK,aT]
   | succ p=>simpa [gK] using l7 (show xs[p]? =some i by simpa using h) aT
theorem oH {ops:Array Oper}:∀{order:List Nat},(gK ops order).length=order.length
 | []=>rfl
 | x::xs=>by simp [gK,oH (order:=xs)]
structure Cert (P:Program) (au:Nat) (ops:Array Oper) (calls:Nat→dx) (es:List eE) (bE:bA) (bb:af) (cV:bA) (ay:af) (eb:List Nat) (order aD:List Nat) (N M:Nat) (lit:Bool):Prop where
 len:es.length=N
 z7:N≤ops.size
 C9:N≤M
 hz:∀k,k<ops.size→posOf aD k<ops.size∧order[posOf aD k]? =some k
 kh:∀p,p<ops.size→∃i,i<ops.size∧posOf aD i=p
 bb:b_ es ay 0=bb
 bE:dX es cV 0=bE
 step:∀i o,ops[i]? =some o→posOf aD i<N→∃e,es[posOf aD i]? =some e∧(cx P au ops o).run (calls i) e.r e.h=.val e.v (b_ es ay (posOf aD i+1))∧dX es cV (posOf aD i+1)=(fj o.dst).run e.r e.v
 lP:∀i o,ops[i]? =some o→∃cI,(ev [] ops.toList)[i]? =some cI∧lr i o=true∧(posOf aD i<M→
  ∀k ok,ops[k]? =some ok→posOf aD k<M→∃mk,(ev [] ops.toList)[k]? =some mk∧nH i cI (b5 ops o) o.dst k mk ok (Nat.blt (posOf aD k) (posOf aD i))=true∧(eH P o.op=true→dT P ok=true→posOf aD k<posOf aD i→fw cI k=true∨(lit=true∧ka o=true∧ka ok=true)))
 ends:N ∈ eb
 mem:∀j o,ops[j]? =some o→dT P o=true→posOf aD j ∈ eb
 SM:∀s ∈ eb,(s=ops.size∨(s=N∧M=N))∨∃k o,ops[k]? =some o∧dT P o=true∧s=posOf aD k
 ask:∀j o,ops[j]? =some o→looks o.op=true→eH P o.op=false→posOf aD j<N→∃e,es[posOf aD j]? =some e∧∀s ∈ eb,
  q8 P (ev [] ops.toList) ops.toList aD j (((ev [] ops.toList)[j]?).getD 0) s=true→∃c aa,(gk P c∧gu P c)∧(cx P au ops o).run c e.r (b_ es ay s)=.val e.v aa
 tail:M<ops.size→M=N∧∀k ok mk,ops[k]? =some ok→N≤posOf aD k→(ev [] ops.toList)[k]? =some mk→∀j,j<ops.size→posOf aD j<N→fw mk j=true
 stop:N<ops.size→ops.size≤M→∃i0 hy m0,ops[i0]? =some hy∧posOf aD i0=N∧kL hy.op=true∧(ev [] ops.toList)[i0]? =some m0∧
  (∀k ok mk,ops[k]? =some ok→N<posOf aD k→(ev [] ops.toList)[k]? =some mk→fw mk i0=true)∧
  (∀k ok,ops[k]? =some ok→gg ok=true→posOf aD k<N→fw m0 k=true)∧∃v aa,(cx P au ops hy).run (calls i0) cV ay=.cH v aa
theorem Qv {o:Oper} (h:kL o.op=true):eH P o.op=true∧gg o=false:=by
 obtain ⟨dst,op,type,pos,after,guard⟩:=o
 cases op<;>simp only [kL] at h<;>try (cases h;done)
 · rename_i c
   obtain ⟨callee,args,types⟩:=c
   cases callee<;>simp only at h<;>try (cases h;done)
   exact ⟨rfl,rfl⟩
 · exact ⟨rfl,rfl⟩
variable {au:Nat} {ops:Array Oper} {call:dx} {calls:Nat→dx} {es:List eE} {bE:bA} {bb:af} {cV:bA} {ay:af} {eb:List Nat} {order aD:List Nat} {N M:Nat} {lit:Bool}
theorem Cert.uY (C:Cert P au ops calls es bE bb cV ay eb order aD N M lit) {k bt:Nat} (ab:k<ops.size) (ae:bt<ops.size) (he:posOf aD k=posOf aD bt):k=bt:=by
 have a:=(C.hz k ab).2
 have b:=(C.hz bt ae).2
 rw [he,b] at a
 cases a
 rfl
theorem Nd {ops:Array Oper} {aD:List Nat} (ay:vT P ops aD=true):∀i o,ops[i]? =some o→∃cI,(ev [] ops.toList)[i]? =some cI∧lr i o=true∧
 ∀k ok,ops[k]? =some ok→∃mk,(ev [] ops.toList)[k]? =some mk∧nH i cI (b5 ops o) o.dst k mk ok (Nat.blt (posOf aD k) (posOf aD i))=true∧(eH P o.op=true→dT P ok=true→posOf aD k<posOf aD i→fw cI k=true):=by
 intro i o aC
 unfold vT at ay
 obtain ⟨cI,ab,ae⟩:=oY ay i o (by simpa using aC)
 simp only [Nat.zero_add,Bool.and_eq_true] at ae
 refine ⟨cI,ab,ae.1,fun k ok aE=>?_⟩
 obtain ⟨mk,bz,bZ⟩:=oY ae.2 k ok (by simpa using aE)
 simp only [Nat.zero_add,Bool.and_eq_true] at bZ
 refine ⟨mk,bz,bZ.1,fun aK aS aL=>?_⟩
 have fu:=bZ.2
 rw [aK,aS,Bool.true_and,show Nat.blt (posOf aD k) (posOf aD i)=true from by rw [Nat.blt_eq];exact aL] at fu
 exact fu
theorem Cert.JS (C:Cert P au ops calls es bE bb cV ay eb order aD N M lit):∀p,p≤N→∀t,t≤top→
 (∃k o e,posOf aD k<p∧ops[k]? =some o∧o.dst=some t∧es[posOf aD k]? =some e∧T.get .bad (al t) (dX es cV p)=e.v)∨
 ((∀k o,posOf aD k<p→ops[k]? =some o→o.dst≠some t)∧T.get .bad (al t) (dX es cV p)=T.get .bad (al t) bE)
 | 0,_,t,aF=>.inr ⟨fun k o h=>by omega,by rw [C.bE]⟩
 | p+1,aC,t,aF=>by
   obtain ⟨i,aL,iR⟩:=C.kh p (by have:=C.z7;omega)
   have cl:ops[i]? =some ops[i]:=Array.getElem?_eq_getElem aL
   obtain ⟨e,ab,ae,aG⟩:=C.step i ops[i] cl (by omega)
   rw [iR] at ab ae aG
   have H':dX es cV p=e.r:=by simp [dX,ab]
   have dQ:=N1 (r:=e.r) (v:=e.v) (jB ae).1 aF
   rw [aG,dQ]
   by_cases aZ:ops[i].dst=some t
   · rw [if_pos aZ]
     exact .inl ⟨i,_,e,by omega,cl,aZ,by rw [iR];exact ab,rfl⟩
   · rw [if_neg aZ,←H']
     rcases Cert.JS C p (by omega) t aF with ⟨k,o,dj,an,az,aN,bM,dL⟩ | ⟨an,az⟩
     · exact .inl ⟨k,o,dj,by omega,az,aN,bM,dL⟩
     · refine .inr ⟨fun k o aE aT=>?_,az⟩
       by_cases gf:k=i
       · subst gf;rw [cl] at aT;cases aT;exact aZ
       · refine an k o ?_ aT
         have nr:=(Array.getElem?_eq_some_iff.1 aT).1
         have:posOf aD k≠p:=fun e=>gf (C.uY nr aL (by rw [e,iR]))
         omega
theorem Cert.GK (C:Cert P au ops calls es bE bb cV ay eb order aD N M lit):∀p,p≤N→T.get .bad eF (dX es cV p)=T.get .bad eF bE
 | 0,_=>by rw [C.bE]
 | p+1,aC=>by
   obtain ⟨i,aL,iR⟩:=C.kh p (by have:=C.z7;omega)
   have cl:ops[i]? =some ops[i]:=Array.getElem?_eq_getElem aL
   obtain ⟨e,ab,ae,aG⟩:=C.step i ops[i] cl (by omega)
   rw [iR] at ab ae aG
   have H':dX es cV p=e.r:=by simp [dX,ab]
   have aZ:=(jB ae).1
   rw [aG,←Cert.GK C p (by omega),H']
   cases acs:ops[i].dst with
   | none=>rfl
   | some d=>
     rw [acs] at aZ
     simp only [e3,Bool.and_eq_true,Nat.ble_eq] at aZ
     simp only [fj]
     rw [T.hr,if_neg (uW aZ.2)]
def nameAt (es:List eE) (ay:af) (aD:List Nat) (k:Nat):aP:=al (b_ es ay (posOf aD k)).next
noncomputable def yE (es:List eE) (ay:af) (aD:List Nat) (k:Nat):cb:=(b_ es ay (posOf aD k+1)).get (nameAt es ay aD k)
def Made (es:List eE) (ay:af) (aD:List Nat) (k:Nat):Prop:=(b_ es ay (posOf aD k+1)).next≠(b_ es ay (posOf aD k)).next
def jd (ops:Array Oper) (es:List eE) (ay:af) (aD:List Nat) (listed:Array Bool) (s k:Nat):Prop:=
 ∃o,ops[k]? =some o∧(gg o=true∧Made es ay aD k)∧¬listed.getD k false=true∧posOf aD k<s
structure Holds (aw F:Fr) (es:List eE) (ay:af) (aD:List Nat) (D:Nat→Prop):Prop where
 w:F.w=aw.w
 b1:∀b,(∀k,D k→nameAt es ay aD k≠b)→F.dc b=aw.dc b
 new:∀k,D k→F.dc (nameAt es ay aD k)=some (yE es ay aD k)∧aw.dc (nameAt es ay aD k)=none
 inj:∀k bt,D k→D bt→nameAt es ay aD k=nameAt es ay aD bt→k=bt
theorem Holds.congr {aw F:Fr} {D KX:Nat→Prop} (H:Holds aw F es ay aD D) (h:∀k,KX k↔D k):Holds aw F es ay aD KX:=
 ⟨H.w,fun b ag=>H.b1 b fun k aE=>ag k ((h k).2 aE),fun k aE=>H.new k ((h k).1 aE),fun k bt aE ha=>H.inj k bt ((h k).1 aE) ((h bt).1 ha)⟩
theorem Holds.none {aw F:Fr} {D:Nat→Prop} (H:Holds aw F es ay aD D) (h:∀k,¬D k):F=aw:=by
 have:F.dc=aw.dc:=funext fun b=>H.b1 b fun k aE=>absurd aE (h k)
 cases F;cases aw
 have hw:=H.w
 simp only at this hw
 rw [this,hw]
theorem Cert.advance (C:Cert P au ops calls es bE bb cV ay eb order aD N M lit) {aw:Fr} {listed:Array Bool} {E:Env} {w:World}:∀(d q:Nat),q+d=N→(∀k o,ops[k]? =some o→gg o=true→q≤posOf aD k→¬listed.getD k false=true)→
 ∀F,Holds aw F es ay aD (jd ops es ay aD listed q)→a' F E (b_ es ay q) w→
 ∃s dR,s ∈ eb∧q≤s∧s≤N∧(∀k o,ops[k]? =some o→dT P o=true→q≤posOf aD k→s≤posOf aD k)∧Holds aw dR es ay aD (jd ops es ay aD listed s)∧a' dR E (b_ es ay s) w
 | 0,q,aA,_,F,H,S=>by
   have:q=N:=by omega
   subst this
   exact ⟨q,F,C.ends,Nat.le_refl _,Nat.le_refl _,fun k o _ _ h=>h,H,S⟩
 | d+1,q,aA,se,F,H,S=>by
   obtain ⟨i,aL,iR⟩:=C.kh q (by have:=C.z7;omega)
   have cl:ops[i]? =some ops[i]:=Array.getElem?_eq_getElem aL
   cases k4:dT P ops[i] with
   | true=>exact ⟨q,F,by rw [←iR];exact C.mem i _ cl k4,Nat.le_refl _,by omega,fun k o _ _ h=>h,H,S⟩
   | false=>
     obtain ⟨e,ab,ae,aG⟩:=C.step i ops[i] cl (by omega)
     rw [iR] at ab ae
     have sb:b_ es ay q=e.h:=by simp [b_,ab]
     have only:∀k o,ops[k]? =some o→posOf aD k=q→k=i:=fun k o aE ah=>C.uY (Array.getElem?_eq_some_iff.1 aE).1 aL (by rw [ah,iR])
     have fin:∀dR,Holds aw dR es ay aD (jd ops es ay aD listed (q+1))→a' dR E (b_ es ay (q+1)) w→
      ∃s dR,s ∈ eb∧q≤s∧s≤N∧(∀k o,ops[k]? =some o→dT P o=true→q≤posOf aD k→s≤posOf aD k)∧Holds aw dR es ay aD (jd ops es ay aD listed s)∧a' dR E (b_ es ay s) w:=by
      intro dR jt Ba
      obtain ⟨s,xY,g1,g2,g3,g4,g5,g6⟩:=Cert.advance C d (q+1) (by omega) (fun k o ab ae aG=>se k o ab ae (by omega)) dR jt Ba
      refine ⟨s,xY,g1,by omega,g3,fun k o aE aI ah=>g4 k o aE aI ?_,g5,g6⟩
      by_cases Cx:posOf aD k=q
      · have:=only k o aE Cx
        subst this
        rw [cl] at aE;cases aE
        rw [k4] at aI;cases aI
      · omega
     have pass:b_ es ay (q+1)=e.h→(gg ops[i]=true→¬Made es ay aD i)→∃s dR,s ∈ eb∧q≤s∧s≤N∧(∀k o,ops[k]? =some o→dT P o=true→q≤posOf aD k→s≤posOf aD k)∧Holds aw dR es ay aD (jd ops es ay aD listed s)∧a' dR E (b_ es ay s) w:=by
      intro wS j_
      rw [←sb] at wS
      refine fin F (H.congr fun k=>⟨?_,?_⟩) (by rw [wS];exact S)
      · rintro ⟨o,an,az,aN,bM⟩
        refine ⟨o,an,az,aN,?_⟩
        have:posOf aD k≠q:=fun e=>by
         have:=only k o an e
         subst this
         rw [cl] at an;cases an
         exact j_ az.1 az.2
        omega
      · rintro ⟨o,an,az,aN,bM⟩
        exact ⟨o,an,az,aN,by omega⟩
     cases bq:gg ops[i] with
     | true=>
      rcases Na bq ae with ⟨c6,bz,bZ⟩ | ⟨bz,_⟩
      ·
       have aQ:=S.hold c6
       have aU:nameAt es ay aD i=al (b_ es ay q).next:=by unfold nameAt;rw [iR]
       have ag:yE es ay aD i=c6:=by
        unfold yE
        rw [aU,iR,bz,sb,af.hI,if_pos rfl]
       rw [sb,←bz] at aQ
       have ac8:Made es ay aD i:=by
        unfold Made
        rw [iR,bz,sb]
        exact Nat.succ_ne_self _
       have pL:¬listed.getD i false=true:=se i _ cl bq (by omega)
       have Gx:∀k,jd ops es ay aD listed (q+1) k→k=i∨jd ops es ay aD listed q k:=by
        rintro k ⟨o,an,az,aN,bM⟩
        by_cases Cx:posOf aD k=q
        · exact .inl (only k o an Cx)
        · exact .inr ⟨o,an,az,aN,by omega⟩
       have fresh:∀b w9,F.dc b=some w9→b≠nameAt es ay aD i:=by
        intro b w9 pE heq
        obtain ⟨_,_,j,zK,uG⟩:=S.oL b w9 pE
        rw [heq,aU] at uG
        rw [sb] at zK uG
        have:=dW uG
        omega
       have Pm:∀b,b≠nameAt es ay aD i→(F.hold (al e.h.next) c6).dc b=F.dc b:=by
        intro b On
        rw [aU,sb] at On
        simp only [Fr.hold,if_neg On]
       have VB:(F.hold (al e.h.next) c6).dc (nameAt es ay aD i)=some c6:=by
        rw [aU,sb]
        simp only [Fr.hold,if_true]
       have ne:∀k,jd ops es ay aD listed q k→nameAt es ay aD k≠nameAt es ay aD i:=fun k aE=>fresh _ _ (H.new k aE).1
       refine fin (F.hold (al e.h.next) c6) ⟨H.w,fun b pE=>?_,fun k aE=>?_,fun k bt aE ha he=>?_⟩ aQ
       · have tR:b≠nameAt es ay aD i:=fun e=>pE i ⟨_,cl,⟨bq,ac8⟩,pL,by omega⟩ e.symm
         rw [Pm b tR]
         exact H.b1 b fun k aE=>pE k (by obtain ⟨o,an,az,aN,bM⟩:=aE;exact ⟨o,an,az,aN,by omega⟩)
       · rcases Gx k aE with rfl | aE
         · refine ⟨by rw [VB,ag],?_⟩
           cases ah:aw.dc (nameAt es ay aD k) with
           | none=>rfl
           | some w9=>
             exfalso
             have:=H.b1 (nameAt es ay aD k) fun bt ha=>ne bt ha
             rw [ah] at this
             exact fresh _ _ this rfl
         · rw [Pm _ (ne k aE)]
           exact H.new k aE
       · rcases Gx k aE with rfl | aE<;>rcases Gx bt ha with rfl | ha
         · rfl
         · exact absurd he.symm (ne bt ha)
         · exact absurd he (ne k aE)
         · exact H.inj k bt aE ha he
      · refine pass bz fun _ hm=>hm ?_
        rw [iR,bz,sb]
     | false=>
       have dI:eH P ops[i].op=false:=by
        unfold dT at k4
        rw [bq] at k4
        simpa using k4
       exact pass (tD dI ae).1 fun h=>by rw [bq] at h;cases h
structure o2 (P:Program) (aw:Fr) (au:Nat) (ops:Array Oper) (es:List eE) (bE:bA) (ay:af) (eb aD:List Nat) (fQ:Env) (N:Nat) (D:List Deferred) (listed:Array Bool) (a:Act) (w:World):Prop where
 q7:listed.size=ops.size
 size:a.tmps.size=au
 defers:a.defers=D
 rX:∀k,listed.getD k false=true→posOf aD k<N
 down:o4 ops fun k=>listed.getD k false=true
 main:∃E s F,fQ.le E∧s ∈ eb∧s≤N∧(∀k o,ops[k]? =some o→dT P o=true→(listed.getD k false=true↔posOf aD k<s))∧
  (∀k o,ops[k]? =some o→gg o=true→listed.getD k false=true→posOf aD k<s)∧Holds aw F es ay aD (jd ops es ay aD listed s)∧a' F E (b_ es ay s) w∧
  ∀t,t≤top→(∃k o e,listed.getD k false=true∧ops[k]? =some o∧o.dst=some t∧es[posOf aD k]? =some e∧Rel E e.v (a.tmps.getD t undef))∨
   ((∀k o,listed.getD k false=true→ops[k]? =some o→o.dst≠some t)∧Rel E (T.get .bad (al t) bE) (a.tmps.getD t undef))
theorem r4 {l:Array Bool} {i:Nat}:l.getD i false=true↔l[i]? =some true:=by
 rw [Array.getD_eq_getD_getElem?]
 cases l[i]? with
 | none=>simp
 | some b=>cases b<;>simp
theorem fr {l:Array Bool} {i k:Nat} (aC:i<l.size):(l.setIfInBounds i true).getD k false=true↔(k=i∨l.getD k false=true):=by
 rw [r4,r4,Array.getElem?_setIfInBounds]
 by_cases h:i=k
 · subst h;simp [aC]
 · have:¬k=i:=fun e=>h e.symm
   simp [h,this]
theorem BP {r:bA} {t:Nat} (aF:t≤top):∀{l:List Oper},T.get .bad (al t) (ni r l)=.bad∨(T.get .bad (al t) (ni r l)=T.get .bad (al t) r∧∀o ∈ l,o.dst≠some t)
 | []=>.inr ⟨rfl,fun o aT=>by simp at aT⟩
 | o::os=>by
   simp only [ni]
   cases aZ:o.dst with
   | none=>
     simp only
     rcases BP (r:=r) aF (l:=os) with h | ⟨ab,ae⟩
     · exact .inl h
     · exact .inr ⟨ab,fun b8 gU=>by
        rcases List.mem_cons.1 gU with rfl | gU
        · rw [aZ];simp
        · exact ae b8 gU⟩
   | some d=>
     simp only
     cases ag:Nat.ble d top with
     | true=>
       simp only [cond_true]
       rw [T.hr]
       by_cases tX:d=t
       · subst tX;rw [if_pos rfl];exact .inl rfl
       · rw [if_neg (fun e=>tX (dW e))]
         rcases BP (r:=r) aF (l:=os) with h | ⟨ab,ae⟩
         · exact .inl h
         · exact .inr ⟨ab,fun b8 gU=>by
            rcases List.mem_cons.1 gU with rfl | gU
            · rw [aZ];simpa using tX
            · exact ae b8 gU⟩
     | false=>
       simp only [cond_false]
       have tX:d≠t:=fun e=>by subst e;rw [←Nat.ble_eq] at aF;rw [aF] at ag;cases ag
       rcases BP (r:=r) aF (l:=os) with h | ⟨ab,ae⟩
       · exact .inl h
       · exact .inr ⟨ab,fun b8 gU=>by
          rcases List.mem_cons.1 gU with rfl | gU
          · rw [aZ];simpa using tX
          · exact ae b8 gU⟩
theorem BO {r:bA}:∀{l:List Oper},T.get .bad eF (ni r l)=T.get .bad eF r
 | []=>rfl
 | o::os=>by
   simp only [ni]
   cases aZ:o.dst with
   | none=>exact BO
   | some d=>
     simp only
     cases ag:Nat.ble d top with
     | true=>
       simp only [cond_true]
       rw [T.hr,if_neg (uW (Nat.le_of_ble_eq_true ag))]
       exact BO
     | false=>exact BO
theorem Nh {rd:Option Nat} {D:List Deferred} {aw:Fr} (bG:ez P) (cN:∀i,gk P (calls i)) (dq:∀i,gu P (calls i)) (C:Cert P au ops calls es bE bb cV ay eb order aD N M lit) {fQ:Env} {listed:Array Bool} {a:Act} {w:World} (I:o2 P aw au ops es bE ay eb aD fQ N D listed a w)
 {i:Nat} (aC:i ∈ Region.ready .any ops listed) (acP:posOf aD i<M) (uc:lit=true→∀o k ok,ops[i]? =some o→ka o=true→ops[k]? =some ok→ka ok=true→posOf aD k<posOf aD i→listed.getD k false=true) {Q:Exit→Act→World→Prop} {K:Act→World→Prop} (dv:∀bm ao,o2 P aw au ops es bE ay eb aD fQ N D (listed.setIfInBounds i true) bm ao→K bm ao)
 (cZ:∀av bm ao x v aa,fQ.le av→N<ops.size→ops.size≤M→(∃i0 hy,ops[i0]? =some hy∧posOf aD i0=N∧(cx P au ops hy).run (calls i0) cV ay=.cH v aa)→RegRel0 av au (ni bE ops.toList) bm→bm.defers=D→Rel av v x→a' aw av aa ao→Q (.panic (oJ x)) bm ao):wpOpIn (ch rd) 0 P ops Q i K a w:=by
 rw [mem_ready] at aC
 obtain ⟨E,s,F,k3,aQ,qY,k8,d_,jk,pN,uq⟩:=I.main
 obtain ⟨se,o,cl,tY⟩:=aC
 have gd:i<ops.size:=(Array.getElem?_eq_some_iff.1 cl).1
 have sf:¬listed.getD i false=true:=by
  rw [r4]
  intro h
  rw [Array.getD_eq_getD_getElem?,h] at se
  simp at se
 have OK:=zX I.down ops.toList [] (fun j=>by simp) (fun k m j aE=>by simp at aE)
 have wo:o4 ops fun k=>listed.getD k false=true∨k=i:=by
  intro k ok e aE bF he ag
  rcases aE with aE | rfl
  · exact .inl (I.down k ok e aE bF he ag)
  · rw [cl] at bF;cases bF
    exact .inl (tY e (Array.mem_toList_iff.1 he) (by rw [vK];exact ag))
 have ac7:=zX wo ops.toList [] (fun j=>by simp) (fun k m j aE=>by simp at aE)
 obtain ⟨cI,k',hL,Cw⟩:=C.lP i o cl
 have Cw:=Cw acP
 have Hb:=C.C9
 have yZ:∀k,k≠i→fw cI k=true→listed.getD k false=true:=by
  intro k aE ag
  rcases ac7 i cI k k' ag (.inr rfl) with h | h
  · exact h
  · exact absurd h aE
 have hx:=(C.hz i gd).1
 have adl:posOf aD i≤N:=by
  rcases Nat.lt_or_ge N (posOf aD i) with acL | hle
  · exfalso
    have Cd:ops.size≤M:=by
     rcases Nat.lt_or_ge M ops.size with h | h
     · have:=(C.tail h).1;omega
     · exact h
    obtain ⟨i0,hy,m0,cF,z2,z3,z4,z5,_⟩:=C.stop (by omega) Cd
    have ag:=z5 i o cI cl acL k'
    have ab:=yZ i0 (fun e=>by subst e;omega) ag
    have:=I.rX i0 ab
    omega
  · exact hle
 have uniq:∀(k bt:Nat) (ok jN:Oper) (t:Nat),ops[k]? =some ok→ops[bt]? =some jN→posOf aD k<M→posOf aD bt<M→ok.dst=some t→jN.dst=some t→k=bt:=by
  intro k bt ok jN t ab ae cC ck aG ba
  obtain ⟨mk,_,_,ah⟩:=C.lP k ok ab
  obtain ⟨mk',_,hv,_⟩:=ah cC bt jN ae ck
  unfold nH at hv
  rw [ho] at hv
  by_cases jl:k=bt
  · exact jl
  · rw [if_neg jl,ba,aG] at hv
    simp at hv
 have RN:jW (b5 ops o)=true→∀t ∈ b5 ops o,Rel E (T.get .bad (al t) (dX es cV (posOf aD i))) (a.tmps.getD t undef):=by
  intro my t aF
  have wW:t≤top:=by
   have:=List.all_eq_true.1 my t aF
   exact Nat.le_of_ble_eq_true this
  have QY:∀(k:Nat) (ok:Oper),k≠i→posOf aD k<M→ops[k]? =some ok→ok.dst=some t→∃mk,(ev [] ops.toList)[k]? =some mk∧(posOf aD k<posOf aD i→fw cI k=true)∧(¬posOf aD k<posOf aD i→fw mk i=true):=by
   intro k ok aE HE bF aZ
   obtain ⟨mk,an,az,_⟩:=Cw k ok bF HE
   refine ⟨mk,an,?_⟩
   unfold nH at az
   rw [ho,if_neg (fun e=>aE e.symm),aZ] at az
   simp only [Bool.and_eq_true] at az
   have aN:=az.1
   rw [show (b5 ops o).contains t=true from by simpa using aF] at aN
   simp only [cond_true] at aN
   refine ⟨fun aL=>?_,fun iO=>?_⟩
   · rw [show Nat.blt (posOf aD k) (posOf aD i)=true from by rw [Nat.blt_eq];exact aL] at aN
     exact aN
   · rw [show Nat.blt (posOf aD k) (posOf aD i)=false from by rw [←Bool.not_eq_true,Nat.blt_eq];exact iO] at aN
     exact aN
  rcases C.JS (posOf aD i) adl t wW with ⟨k,ok,BK,an,az,aN,bM,dL⟩ | ⟨an,az⟩
  · obtain ⟨mk,_,dC,_⟩:=QY k ok (fun e=>by subst e;omega) (by omega) az aN
    have ug:=yZ k (fun e=>by subst e;omega) (dC an)
    rcases uq t wW with ⟨bt,jN,GP,bS,b0,cB,hh,oI⟩ | ⟨bS,_⟩
    · have:=uniq k bt ok jN t az b0 (by omega) (by have:=I.rX bt bS;omega) aN cB
      subst this
      rw [bM] at hh;cases hh
      rw [dL];exact oI
    · exact absurd aN (bS k ok ug az)
  · rcases uq t wW with ⟨bt,jN,GP,bS,b0,cB,hh,oI⟩ | ⟨_,b0⟩
    · have gf:bt≠i:=fun e=>sf (e ▸ bS)
      obtain ⟨mk,m1,_,dA⟩:=QY bt jN gf (by have:=I.rX bt bS;omega) b0 cB
      by_cases aL:posOf aD bt<posOf aD i
      · exact absurd cB (an bt jN aL b0)
      · exact absurd (OK bt mk i m1 (dA aL) bS) sf
    · rw [az];exact b0
 have level:eH P o.op=true→s≤posOf aD i→s=posOf aD i∧gg o=false:=by
  intro ky hle
  rcases C.SM s aQ with (h | ⟨h,Cc⟩) | ⟨k,ok,bz,bZ,fu⟩
  · omega
  · omega
  · have OR:¬listed.getD k false=true:=fun h=>by have:=(k8 k ok bz bZ).1 h;omega
    have nr:=(Array.getElem?_eq_some_iff.1 bz).1
    by_cases gf:k=i
    · subst gf
      rw [cl] at bz;cases bz
      refine ⟨fu,?_⟩
      unfold dT at bZ
      simpa [ky] using bZ
    · have aL:posOf aD k<posOf aD i:=by
       have:posOf aD k≠posOf aD i:=fun e=>gf (C.uY nr gd e)
       omega
      obtain ⟨mk,_,_,aN⟩:=Cw k ok bz (by omega)
      rcases aN ky bZ aL with h | ⟨g1,g2,g3⟩
      · exact absurd (yZ k gf h) OR
      · exact absurd (uc g1 o k ok cl g2 bz g3 aL) OR
 rcases Nat.lt_or_ge (posOf aD i) N with HN | al7
 case inr=>
  have iu:posOf aD i=N:=by omega
  have Cd:ops.size≤M:=by
   rcases Nat.lt_or_ge M ops.size with h | h
   · have:=(C.tail h).1;omega
   · exact h
  obtain ⟨i0,hy,m0,cF,z2,z3,z4,z5,alm,v,aa,KK⟩:=C.stop (by omega) Cd
  have acR:i0=i:=C.uY (Array.getElem?_eq_some_iff.1 cF).1 gd (by rw [z2,iu])
  subst acR
  rw [cl] at cF;cases cF
  rw [k'] at z4;cases z4
  obtain ⟨ky,ac_⟩:=Qv z3
  have wz:dT P o=true:=by unfold dT;rw [ky,ac_];rfl
  have Ii:s≤posOf aD i0:=by
   rcases Nat.lt_or_ge (posOf aD i0) s with h | h
   · exact absurd ((k8 i0 o cl wz).2 h) sf
   · exact h
  have wT:=(level ky Ii).1
  have gS:F=aw:=jk.none fun k aE=>by
   obtain ⟨ok,an,az,aN,bM⟩:=aE
   have gf:k≠i0:=fun e=>by subst e;omega
   exact aN (yZ k gf (alm k ok an az.1 (by omega)))
  subst gS
  have da:es[N]? =none:=List.getElem?_eq_none (by rw [C.len];exact Nat.le_refl _)
  have jJ:=RN (M' KK).2
  rw [iu] at jJ
  simp only [dX,da] at jJ
  rw [wT,iu] at pN
  simp only [b_,da] at pN
  refine aap bG (cN i0) (dq i0) cl KK z3 I.size jJ pN fun av x ao an az aN=>cZ av a ao x v aa (k3.trans an) (by omega) Cd ⟨i0,o,cl,iu,KK⟩ ⟨I.size,fun t aF=>?_⟩ I.defers az aN
  rcases BP (r:=bE) aF (l:=ops.toList) with h | ⟨ab,ae⟩
  · rw [h];simp [Rel]
  · rw [ab]
    rcases uq t aF with ⟨k,ok,BK,bS,b0,cB,hh,oI⟩ | ⟨bS,b0⟩
    · exact absurd cB (ae ok (by rw [←Array.getElem?_toList] at b0;exact List.mem_of_getElem? b0))
    · exact Rel.mono an _ _ b0
 obtain ⟨e,nm,cT,ame⟩:=C.step i o cl HN
 have gH:=jB cT
 have e_:dX es cV (posOf aD i)=e.r:=by simp [dX,nm]
 have iP:b_ es ay (posOf aD i)=e.h:=by simp [b_,nm]
 have reads:=RN gH.2
 rw [e_] at reads
 have fN:i<listed.size:=by rw [I.q7];exact gd
 have after:∀(fA:Nat) (dR:Fr) (av:Env) (x:Value) (ao:World),fA ∈ eb→fA≤N→(∀k ok,ops[k]? =some ok→dT P ok=true→((k=i∨listed.getD k false=true)↔posOf aD k<fA))→
  (∀k ok,ops[k]? =some ok→gg ok=true→(k=i∨listed.getD k false=true)→posOf aD k<fA)→
  Holds aw dR es ay aD (jd ops es ay aD (listed.setIfInBounds i true) fA)→E.le av→Rel av e.v x→a' dR av (b_ es ay fA) ao→
  o2 P aw au ops es bE ay eb aD fQ N D (listed.setIfInBounds i true) (a.put o.dst x) ao:=by
  intro fA dR av x ao hc adD gm ab6 acM hle aq adB
  refine ⟨by simp [I.q7],by cases h:o.dst<;>simp [Act.put,I.size],by cases h:o.dst<;>simp [Act.put,I.defers],fun k aE=>by
   rcases (fr fN).1 aE with rfl | aE
   · exact HN
   · exact I.rX k aE,?_,av,fA,dR,k3.trans hle,hc,adD,fun k ok ab ae=>by rw [fr fN];exact gm k ok ab ae,
   fun k ok ab ae aG=>ab6 k ok ab ae ((fr fN).1 aG),acM,adB,fun t aF=>?_⟩
  · intro k ok dj aE bF et ag
    rw [fr fN] at aE ⊢
    rcases wo k ok dj aE.symm bF et ag with h | h
    · exact .inr h
    · exact .inl h
  · by_cases aZ:o.dst=some t
    · refine .inl ⟨i,o,e,by rw [fr fN];exact .inl rfl,cl,aZ,nm,?_⟩
      have aL:t<a.tmps.size:=by
       have:=gH.1
       rw [aZ] at this
       simp only [e3,Bool.and_eq_true,Nat.blt_eq] at this
       rw [I.size];exact this.1
      rw [aZ]
      simp only [Act.put]
      rw [Array.getD_eq_getD_getElem?,Array.getElem?_setIfInBounds,if_pos rfl,if_pos aL]
      exact aq
    · have dQ:(a.put o.dst x).tmps.getD t undef=a.tmps.getD t undef:=by
       cases adg:o.dst with
       | none=>rfl
       | some d=>
         simp only [Act.put]
         rw [Array.getD_eq_getD_getElem?,Array.getD_eq_getD_getElem?,Array.getElem?_setIfInBounds,if_neg (fun e=>aZ (by rw [adg,e]))]
      rw [dQ]
      rcases uq t aF with ⟨k,ok,BK,bS,b0,cB,hh,oI⟩ | ⟨bS,b0⟩
      · exact .inl ⟨k,ok,BK,by rw [fr fN];exact .inr bS,b0,cB,hh,Rel.mono hle _ _ oI⟩
      · refine .inr ⟨fun k ok aE bF=>?_,Rel.mono hle _ _ b0⟩
        rw [fr fN] at aE
        rcases aE with rfl | aE
        · rw [cl] at bF;cases bF;exact aZ
        · exact bS k ok aE bF
 have Hr:¬(gg o=true∧Made es ay aD i)→∀fA k,jd ops es ay aD (listed.setIfInBounds i true) fA k↔jd ops es ay aD listed fA k:=by
  intro bq fA k
  constructor
  · rintro ⟨ok,an,az,aN,bM⟩
    exact ⟨ok,an,az,fun h=>aN ((fr fN).2 (.inr h)),bM⟩
  · rintro ⟨ok,an,az,aN,bM⟩
    refine ⟨ok,an,az,fun h=>?_,bM⟩
    rcases (fr fN).1 h with rfl | h
    · rw [cl] at an;cases an;exact bq az
    · exact aN h
 cases ky:eH P o.op with
 | true=>
   cases bq:gg o with
   | true=>
     have aL:posOf aD i<s:=by
      rcases Nat.lt_or_ge (posOf aD i) s with h | h
      · exact h
      · have:=(level ky h).2
        rw [bq] at this;cases this
     by_cases hm:Made es ay aD i
     case neg=>
      have Ic:(cx P au ops o).run (calls i) e.r (b_ es ay s)=.val e.v (b_ es ay s):=by
       rcases Na bq cT with ⟨c6,bz,_⟩ | ⟨_,bz⟩
       · exact absurd (show Made es ay aD i from by unfold Made;rw [bz,iP];exact Nat.succ_ne_self _) hm
       · exact bz _
      refine pv bG (cN i) (dq i) cl Ic I.size reads pN fun av x ao an az aN=>dv _ _ (after s F av x ao aQ qY (fun k ok bF iq=>?_) (fun k ok bF oo aE=>?_) (jk.congr fun k=>Hr (fun h=>hm h.2) s k) an az aN)
      · constructor
        · rintro (rfl | h)
          · rw [cl] at bF;cases bF
            unfold dT at iq
            rw [bq] at iq
            simp at iq
          · exact (k8 k ok bF iq).1 h
        · intro h
          exact .inr ((k8 k ok bF iq).2 h)
      · rcases aE with rfl | aE
        · exact aL
        · exact d_ k ok bF oo aE
     have j8:jd ops es ay aD listed s i:=⟨o,cl,⟨bq,hm⟩,sf,aL⟩
     have HP:(b_ es ay (posOf aD i+1)).next≠e.h.next:=by rw [←iP];exact hm
     have j_:nameAt es ay aD i=al e.h.next:=by unfold nameAt;rw [iP]
     have lb:=(jk.new i j8).1
     have wZ:=(jk.new i j8).2
     have ji:yE es ay aD i=(b_ es ay (posOf aD i+1)).get (al e.h.next):=by unfold yE;rw [j_]
     rw [j_,ji] at lb
     refine aan cl bq cT I.size reads pN HP lb fun av x ao an az aN=>dv _ _ (after s (F.free (al e.h.next)) av x ao aQ qY (fun k ok bF iq=>?_) (fun k ok bF oo aE=>?_) ?_ an az aN)
     · constructor
       · rintro (rfl | h)
         · rw [cl] at bF;cases bF
           unfold dT at iq
           rw [bq] at iq
           simp at iq
         · exact (k8 k ok bF iq).1 h
       · intro h
         exact .inr ((k8 k ok bF iq).2 h)
     · rcases aE with rfl | aE
       · exact aL
       · exact d_ k ok bF oo aE
     · have sub:∀k,jd ops es ay aD (listed.setIfInBounds i true) s k→jd ops es ay aD listed s k∧k≠i:=by
        rintro k ⟨ok,an,az,aN,bM⟩
        refine ⟨⟨ok,an,az,fun h=>aN ((fr fN).2 (.inr h)),bM⟩,fun e=>aN ((fr fN).2 (.inl e))⟩
       refine ⟨jk.w,fun b ag=>?_,fun k aE=>?_,fun k bt aE ha=>jk.inj k bt (sub k aE).1 (sub bt ha).1⟩
       · by_cases tR:b=al e.h.next
         · subst tR
           simp only [Fr.free,if_true]
           rw [←j_,wZ]
         · simp only [Fr.free,if_neg tR]
           refine jk.b1 b fun k aE=>?_
           by_cases gf:k=i
           · subst gf;rw [j_];exact fun e=>tR e.symm
           · obtain ⟨ok,an,az,aN,bM⟩:=aE
             refine ag k ⟨ok,an,az,fun h=>?_,bM⟩
             rcases (fr fN).1 h with h | h
             · exact gf h
             · exact aN h
       · obtain ⟨OD,gf⟩:=sub k aE
         have dI:nameAt es ay aD k≠al e.h.next:=fun e=>gf (jk.inj k i OD j8 (by rw [e,j_]))
         simp only [Fr.free,if_neg dI]
         exact jk.new k OD
   | false=>
     have wz:dT P o=true:=by unfold dT;rw [ky,bq];rfl
     have Ii:s≤posOf aD i:=by
      rcases Nat.lt_or_ge (posOf aD i) s with h | h
      · exact absurd ((k8 i o cl wz).2 h) sf
      · exact h
     have wT:=(level ky Ii).1
     rw [←iP,←wT] at cT
     refine pv bG (cN i) (dq i) cl cT I.size reads pN fun av x ao an az aN=>?_
     rw [wT] at aN
     have ac3:∀k ok,ops[k]? =some ok→gg ok=true→posOf aD i+1≤posOf aD k→¬(listed.setIfInBounds i true).getD k false=true:=by
      intro k ok bF oo ah h
      rcases (fr fN).1 h with rfl | h
      · omega
      · have:=d_ k ok bF oo h
        omega
     have acO:Holds aw F es ay aD (jd ops es ay aD (listed.setIfInBounds i true) (posOf aD i+1)):=by
      refine jk.congr fun k=>?_
      rw [Hr (fun h=>by rw [bq] at h;cases h.1)]
      constructor
      · rintro ⟨ok,cF,z2,z3,z4⟩
        refine ⟨ok,cF,z2,z3,?_⟩
        have nr:=(Array.getElem?_eq_some_iff.1 cF).1
        have:posOf aD k≠posOf aD i:=fun e=>by
         have:=C.uY nr gd e
         subst this
         rw [cl] at cF;cases cF
         rw [bq] at z2;cases z2.1
        omega
      · rintro ⟨ok,cF,z2,z3,z4⟩
        exact ⟨ok,cF,z2,z3,by omega⟩
     obtain ⟨fA,dR,g1,g2,g3,g4,g5,g6⟩:=C.advance (N - (posOf aD i+1)) (posOf aD i+1) (by omega) ac3 F acO aN
     refine dv _ _ (after fA dR av x ao g1 g3 (fun k ok bF iq=>?_) (fun k ok bF oo aE=>?_) g5 an az g6)
     · have nr:=(Array.getElem?_eq_some_iff.1 bF).1
       constructor
       · rintro (rfl | h)
         · omega
         · have:=(k8 k ok bF iq).1 h
           omega
       · intro h
         by_cases gf:k=i
         · exact .inl gf
         · refine .inr ((k8 k ok bF iq).2 ?_)
           rcases Nat.lt_or_ge (posOf aD k) s with bf | bf
           · exact bf
           · have dI:posOf aD k≠posOf aD i:=fun e=>gf (C.uY nr gd e)
             have:=g4 k ok bF iq (by omega)
             omega
     · rcases aE with rfl | aE
       · omega
       · have:=d_ k ok bF oo aE
         omega
 | false=>
   have bq:gg o=false:=by
    cases h:gg o with
    | false=>rfl
    | true=>rw [aek h] at ky;cases ky
   obtain ⟨c,aI,Ic⟩:∃c,(gk P c∧gu P c)∧(cx P au ops o).run c e.r (b_ es ay s)=.val e.v (b_ es ay s):=by
    cases eD:looks o.op with
    | false=>exact ⟨_,⟨cN i,dq i⟩,(tD ky cT).2 eD _⟩
    | true=>
      obtain ⟨dj,an,az⟩:=C.ask i o cl eD ky HN
      rw [nm] at an;cases an
      obtain ⟨c,aa,aI,aN⟩:=az s aQ (KL (by rw [I0];simp) fun k mk ok ab ae=>by
       simp only [Nat.zero_add]
       have bF:ops[k]? =some ok:=by simpa using ae
       cases ud:dT P ok with
       | false=>rfl
       | true=>
         simp only [cond_true]
         cases h7:Nat.blt (posOf aD k) s with
         | true=>
           rw [Nat.blt_eq] at h7
           simp only [cond_true,Bool.not_eq_true']
           cases ag:fw mk i with
           | false=>rfl
           | true=>exact absurd (OK k mk i ab ag ((k8 k ok bF ud).2 h7)) sf
         | false=>
           have acZ:¬posOf aD k<s:=by rw [←Nat.blt_eq,h7];simp
           simp only [cond_false,Bool.not_eq_true',k',Option.getD_some]
           cases ag:fw cI k with
           | false=>rfl
           | true=>
             by_cases gf:k=i
             · subst gf
               rw [cl] at bF;cases bF
               unfold dT at ud
               rw [ky] at ud;cases ud
             · exact absurd ((k8 k ok bF ud).1 (yZ k gf ag)) acZ)
      rw [(tD ky aN).1] at aN
      exact ⟨c,aI,aN⟩
   refine pv bG aI.1 aI.2 cl Ic I.size reads pN fun av x ao an az aN=>dv _ _ (after s F av x ao aQ qY (fun k ok bF iq=>?_) (fun k ok bF oo aE=>?_) (jk.congr fun k=>Hr (fun h=>by rw [bq] at h;cases h.1) s k) an az aN)
   · constructor
     · rintro (rfl | h)
       · rw [cl] at bF;cases bF
         unfold dT at iq
         rw [ky] at iq;cases iq
       · exact (k8 k ok bF iq).1 h
     · intro h
       exact .inr ((k8 k ok bF iq).2 h)
   · rcases aE with rfl | aE
     · rw [cl] at bF;cases bF;rw [bq] at oo;cases oo
     · exact d_ k ok bF oo aE
theorem M8 {D:List Deferred} {aw:Fr} (C:Cert P au ops calls es bE bb cV ay eb order aD N M lit) {fQ:Env} (Hb:N≤M) {listed:Array Bool} {a:Act} {w:World} (I:o2 P aw au ops es bE ay eb aD fQ N D listed a w)
 (d_:∀k,k<ops.size→posOf aD k<N→listed.getD k false=true):∃av,fQ.le av∧RegRel0 av au cV a∧a.defers=D∧a' aw av ay w:=by
 obtain ⟨E,s,F,k3,aQ,qY,k8,_,jk,pN,uq⟩:=I.main
 have da:es[N]? =none:=List.getElem?_eq_none (by rw [C.len];exact Nat.le_refl _)
 have pH:b_ es ay N=ay:=by simp [b_,da]
 have O2:dX es cV N=cV:=by simp [dX,da]
 have wT:s=N:=by
  rcases C.SM s aQ with (h | ⟨h,_⟩) | ⟨k,ok,bz,bZ,fu⟩
  · have:=C.z7;omega
  · exact h
  · rcases Nat.lt_or_ge s N with aL | iO
    · have:=(k8 k ok bz bZ).1 (d_ k (Array.getElem?_eq_some_iff.1 bz).1 (by omega))
      omega
    · omega
 subst wT
 have gS:F=aw:=jk.none fun k aE=>by
  obtain ⟨ok,an,az,aN,bM⟩:=aE
  exact aN (d_ k (Array.getElem?_eq_some_iff.1 an).1 bM)
 subst gS
 rw [pH] at pN
 have Cc:∀k,posOf aD k<s→posOf aD k<M:=fun k h=>by omega
 refine ⟨E,k3,⟨I.size,fun t aF=>?_⟩,I.defers,pN⟩
 have adN:∀(k bt:Nat) (ok jN:Oper),ops[k]? =some ok→ops[bt]? =some jN→posOf aD k<s→posOf aD bt<s→ok.dst=some t→jN.dst=some t→k=bt:=by
  intro k bt ok jN ab ae cC ck aG ba
  obtain ⟨mk,_,_,ah⟩:=C.lP k ok ab
  obtain ⟨mk',_,hv,_⟩:=ah (Cc k cC) bt jN ae (Cc bt ck)
  unfold nH at hv
  rw [ho] at hv
  by_cases jl:k=bt
  · exact jl
  · rw [if_neg jl,ba,aG] at hv
    simp at hv
 rcases C.JS s (Nat.le_refl _) t aF with ⟨k,ok,BK,an,az,aN,bM,dL⟩ | ⟨an,az⟩
 · rw [O2] at dL
   rcases uq t aF with ⟨bt,jN,GP,bS,b0,cB,hh,oI⟩ | ⟨bS,_⟩
   · have:=adN k bt ok jN az b0 an (I.rX bt bS) aN cB
     subst this
     rw [bM] at hh;cases hh
     rw [dL];exact oI
   · exact absurd aN (bS k ok (d_ k (Array.getElem?_eq_some_iff.1 az).1 an) az)
 · rw [O2] at az
   rcases uq t aF with ⟨bt,jN,GP,bS,b0,cB,hh,oI⟩ | ⟨_,b0⟩
   · exact absurd cB (an bt jN (I.rX bt bS) b0)
   · rw [az];exact b0
theorem Ng {rd:Option Nat} {D:List Deferred} {aw:Fr} (bG:ez P) (cN:∀i,gk P (calls i)) (dq:∀i,gu P (calls i)) (C:Cert P au ops calls es bE bb cV ay eb order aD N M false) {fQ:Env} {Q:Exit→Act→World→Prop}
 (cZ:N=ops.size→∀av bm ao,fQ.le av→RegRel0 av au cV bm→bm.defers=D→a' aw av ay ao→Q .normal bm ao)
 (hJ:∀av bm ao x v aa,fQ.le av→N<ops.size→ops.size≤M→(∃i0 hy,ops[i0]? =some hy∧posOf aD i0=N∧(cx P au ops hy).run (calls i0) cV ay=.cH v aa)→RegRel0 av au (ni bE ops.toList) bm→bm.defers=D→Rel av v x→a' aw av aa ao→Q (.panic (oJ x)) bm ao)
 (dP:M<ops.size→∀(fuel:Nat) (listed:Array Bool) av bm ao,(List.range ops.size).countP (fun i=>!listed.getD i false)≤fuel→listed.size=ops.size→o4 ops (fun k=>listed.getD k false=true)→(∀k,k<ops.size→(listed.getD k false=true↔posOf aD k<N))→
   fQ.le av→RegRel0 av au cV bm→bm.defers=D→a' aw av ay ao→wpAnyIn (ch rd) 0 P .any ops Q fuel listed bm ao):∀(fuel:Nat) (listed:Array Bool) (a:Act) (w:World),(List.range ops.size).countP (fun i=>!listed.getD i false)≤fuel→
 o2 P aw au ops es bE ay eb aD fQ N D listed a w→wpAnyIn (ch rd) 0 P .any ops Q fuel listed a w:=by
 have done:∀(listed:Array Bool) (a:Act) (w:World),o2 P aw au ops es bE ay eb aD fQ N D listed a w→Region.ready .any ops listed=[]→∀i,i<ops.size→listed.getD i false=true:=by
  intro listed a w I aJ i
  induction i using Nat.strongRecOn with
  | _ i bk=>
    intro aC
    cases fN:listed.getD i false with
    | true=>rfl
    | false=>
      exfalso
      have cl:ops[i]? =some ops[i]:=Array.getElem?_eq_getElem aC
      obtain ⟨cI,_,hL,_⟩:=C.lP i _ cl
      have:i ∈ Region.ready .any ops listed:=by
       rw [mem_ready]
       refine ⟨?_,ops[i],cl,fun e he ag=>?_⟩
       · have ca:i<listed.size:=by rw [I.q7];exact aC
         rw [Array.getD_eq_getD_getElem?,Array.getElem?_eq_getElem ca] at fN ⊢
         exact fN
       · have ab:=List.all_eq_true.1 hL e (Array.mem_toList_iff.2 he)
         rw [vK] at ag
         rw [ag] at ab
         simp only [Bool.not_true,Bool.false_or,Nat.blt_eq] at ab
         exact bk e.on ab (by omega)
      rw [aJ] at this
      simp at this
 have Hb:=C.C9
 have full:∀(listed:Array Bool) (a:Act) (w:World),o2 P aw au ops es bE ay eb aD fQ N D listed a w→(∀k,k<ops.size→posOf aD k<N→listed.getD k false=true)→(N=ops.size∨(M<ops.size∧M=N))→
  ∃av,fQ.le av∧RegRel0 av au cV a∧a.defers=D∧a' aw av ay w:=fun _ _ _ I d_ _=>M8 C Hb I d_
 have finish:∀(listed:Array Bool) (a:Act) (w:World),o2 P aw au ops es bE ay eb aD fQ N D listed a w→Region.ready .any ops listed=[]→Q .normal a w:=by
  intro listed a w I aJ
  have d_:=done listed a w I aJ
  have Hc:N=ops.size:=by
   rcases Nat.lt_or_ge N ops.size with aL | iO
   · exfalso
     obtain ⟨i,y',mv⟩:=C.kh N aL
     have:=I.rX i (d_ i y')
     omega
   · exact Nat.le_antisymm C.z7 iO
  obtain ⟨av,g1,g2,g3,g4⟩:=full listed a w I (fun k aE _=>d_ k aE) (.inl Hc)
  exact cZ Hc av a w g1 g2 g3 g4
 intro fuel
 induction fuel with
 | zero=>
   intro listed a w aI I
   have d_:∀i,i<ops.size→listed.getD i false=true:=by
    intro i aC
    have bb:(List.range ops.size).countP (fun i=>!listed.getD i false)=0:=by omega
    rw [List.countP_eq_zero] at bb
    simpa using bb i (List.mem_range.2 aC)
   have aJ:Region.ready .any ops listed=[]:=by
    cases aA:Region.ready .any ops listed with
    | nil=>rfl
    | cons j aeu=>
      exfalso
      have bK:j ∈ Region.ready .any ops listed:=by rw [aA];simp
      rw [mem_ready] at bK
      obtain ⟨ab,o,ae,_⟩:=bK
      have:=d_ j (Array.getElem?_eq_some_iff.1 ae).1
      rw [r4] at this
      rw [Array.getD_eq_getD_getElem?,this] at ab
      simp at ab
   exact ⟨aJ,finish listed a w I aJ⟩
 | succ fuel bk=>
   intro listed a w aI I
   by_cases CD:M<ops.size∧∀k,k<ops.size→posOf aD k<N→listed.getD k false=true
   · obtain ⟨tQ,d_⟩:=CD
     obtain ⟨av,g1,g2,g3,g4⟩:=full listed a w I d_ (.inr ⟨tQ,(C.tail tQ).1⟩)
     exact dP tQ (fuel+1) listed av a w aI I.q7 I.down (fun k aE=>⟨I.rX k,d_ k aE⟩) g1 g2 g3 g4
   have zr:∀i,i ∈ Region.ready .any ops listed→posOf aD i<M:=by
    intro i aC
    have mv:=aC
    rw [mem_ready] at mv
    obtain ⟨ab,o,ae,tY⟩:=mv
    have gd:i<ops.size:=(Array.getElem?_eq_some_iff.1 ae).1
    rcases Nat.lt_or_ge M ops.size with tQ | tQ
    · obtain ⟨Cc,wU⟩:=C.tail tQ
      rcases Nat.lt_or_ge (posOf aD i) N with aL | iO
      · omega
      · exfalso
        refine CD ⟨tQ,fun k aE HF=>?_⟩
        obtain ⟨cI,k',_⟩:=C.lP i o ae
        have ag:=wU i o cI ae iO k' k aE HF
        have wo:o4 ops fun k=>listed.getD k false=true∨k=i:=by
         intro k ok e aE bF he ag
         rcases aE with aE | rfl
         · exact .inl (I.down k ok e aE bF he ag)
         · rw [ae] at bF;cases bF
           exact .inl (tY e (Array.mem_toList_iff.1 he) (by rw [vK];exact ag))
        rcases zX wo ops.toList [] (fun j=>by simp) (fun k m j aE=>by simp at aE) i cI k k' ag (.inr rfl) with h | h
        · exact h
        · subst h;omega
    · have:=(C.hz i gd).1
      omega
   refine ⟨fun aJ=>finish listed a w I aJ,fun i aC=>?_⟩
   refine Nh bG cN dq C I aC (zr i aC) (fun h=>by cases h) (fun bm ao Ec=>bk _ bm ao ?_ Ec) hJ
   have mv:=aC
   rw [mem_ready] at mv
   obtain ⟨ab,o,ae,_⟩:=mv
   have gd:i<ops.size:=(Array.getElem?_eq_some_iff.1 ae).1
   have fN:i<listed.size:=by rw [I.q7];exact gd
   have sf:listed.getD i false=false:=by
    rw [Array.getD_eq_getD_getElem?,Array.getElem?_eq_getElem fN] at ab ⊢
    exact ab
   have:=BD (fun k=>!listed.getD k false) (fun k=>!(listed.setIfInBounds i true).getD k false) (List.range ops.size)
    (fun k _ aE=>by
      simp only [Bool.not_eq_true'] at aE ⊢
      cases aA:listed.getD k false with
      | false=>rfl
      | true=>
        have:=(fr (k:=k) fN).2 (.inr aA)
        rw [aE] at this
        cases this)
    ⟨i,List.mem_range.2 gd,by simp [sf],by
      have:=(fr (k:=i) fN).2 (.inl rfl)
      simp [this]⟩
   omega
theorem af.set_comm (h:af) {b bP:aP} (dI:b≠bP) (k bt:cb):(h.set b k).set bP bt=(h.set bP bt).set b k:=by
 unfold af.set
 simp only
 rw [T.put_comm _ _ _ _ _ _ (fun e=>dI e.symm)]
theorem Kk {o:Oper} {x:Operand} (h:ri o=some x):∃t y,o.op=.store t x y∧o.dst=none∧o.guard=none:=by
 unfold ri at h
 split at h
 case h_2=>cases h
 rename_i t Tm y aT
 split at h
 case h_2=>cases h
 rename_i aZ
 split at h
 case h_2=>cases h
 rename_i aH
 cases h
 exact ⟨t,y,aT,aZ,aH⟩
theorem agp {h aa:af} {b:aP} {off:Nat} {ad:List V} (he:lay h b off ad=some aa):∃k,aa=h.set b k∧∀H:af,H.get b=h.get b→lay H b off ad=some (H.set b k):=by
 unfold lay at he ⊢
 cases aH:h.get b<;>rw [aH] at he<;>simp only [cb.on] at he<;>try (cases he;done)
 obtain ⟨aI,ab⟩:=ef he
 cases ab
 refine ⟨_,rfl,fun H j8=>?_⟩
 rw [j8]
 simp only [cb.on,aI,cond_true]
theorem Nc {all:Array Oper} {o:Oper} {x:Operand} {call:dx} {r:bA} {h aa:af} {v:V} (aq:ri o=some x) (he:(cx P au all o).run call r h=.val v aa):
 ∃b off k,(bQ x).run (dm r (b5 all o))=.ptr b off∧aa=h.set b k∧∀H:af,H.get b=h.get b→(cx P au all o).run call r H=.val v (H.set b k):=by
 obtain ⟨t,y,aT,aZ,aH⟩:=Kk aq
 obtain ⟨ab,ae⟩:=jB he
 have key:cx P au all o=⟨h5 none (e1 P o) (b5 all o)⟩:=by
  unfold cx
  rw [show (e3 au o.dst&&jW (b5 all o))=true from by rw [ab,ae];rfl,aH]
  rfl
 rw [key] at he ⊢
 simp only [h5] at he ⊢
 have tT:∀H,(e1 P o).run call (dm r (b5 all o)) H=gB .bad ((rh P t).run H ((bQ x).run (dm r (b5 all o))) ((bQ y).run (dm r (b5 all o)))):=by
  intro H
  unfold e1
  rw [aT]
 rw [tT] at he
 cases aQ:(rh P t).run h ((bQ x).run (dm r (b5 all o))) ((bQ y).run (dm r (b5 all o))) with
 | none=>rw [aQ] at he;cases he
 | some aG=>
   rw [aQ] at he
   simp only [gB,aY.val.injEq] at he
   obtain ⟨rfl,rfl⟩:=he
   unfold rh at aQ
   cases aF:a8 P t with
   | none=>rw [aF] at aQ;cases aQ
   | some aO=>
     rw [aF] at aQ
     simp only [oR] at aQ
     obtain ⟨b,off,ah,ba⟩:=xp aQ
     obtain ⟨aI,cz⟩:=ef ba
     obtain ⟨k,bz,bZ⟩:=agp cz
     refine ⟨b,off,k,ah,bz,fun H j8=>?_⟩
     rw [tT]
     unfold rh
     rw [aF]
     simp only [oR,ah,V.h',aI,cond_true,bZ H j8,gB]
theorem xx {listed:Array Bool} (hL:∀i o,ops[i]? =some o→lr i o=true) (ca:listed.size=ops.size) (aJ:Region.ready .any ops listed=[]):∀i,i<ops.size→listed.getD i false=true:=by
 intro i
 induction i using Nat.strongRecOn with
 | _ i bk=>
   intro aC
   cases fN:listed.getD i false with
   | true=>rfl
   | false=>
     exfalso
     have cl:ops[i]? =some ops[i]:=Array.getElem?_eq_getElem aC
     have hL:=hL i _ cl
     have:i ∈ Region.ready .any ops listed:=by
      rw [mem_ready]
      refine ⟨?_,ops[i],cl,fun e he ag=>?_⟩
      · have aQ:i<listed.size:=by rw [ca];exact aC
        rw [Array.getD_eq_getD_getElem?,Array.getElem?_eq_getElem aQ] at fN ⊢
        exact fN
      · have ab:=List.all_eq_true.1 hL e (Array.mem_toList_iff.2 he)
        rw [vK] at ag
        rw [ag] at ab
        simp only [Bool.not_true,Bool.false_or,Nat.blt_eq] at ab
        exact bk e.on ab (by omega)
     rw [aJ] at this
     simp at this
theorem u0 {listed:Array Bool} {i:Nat} (alD:listed.size=ops.size) (aC:i ∈ Region.ready .any ops listed):i<ops.size∧¬listed.getD i false=true:=by
 rw [mem_ready] at aC
 obtain ⟨ab,o,ae,_⟩:=aC
 refine ⟨(Array.getElem?_eq_some_iff.1 ae).1,fun h=>?_⟩
 rw [r4] at h
 rw [Array.getD_eq_getD_getElem?,h] at ab
 simp at ab
theorem Kn {rd:Option Nat} {aw:Fr} (bG:ez P) (cN:gk P call) (dq:gu P call) (hL:∀i o,ops[i]? =some o→lr i o=true) {i:Nat} {o:Oper} (cl:ops[i]? =some o) (aZ:o.dst=none) {r:bA} {h aa:af} {v:V}
 (he:(cx P au ops o).run call r h=.val v aa) {Q:Exit→Act→World→Prop} {E:Env} {a:Act} {w:World} (k:e8 E au r a) (s:a' aw E h w) (cZ:∀av ao,E.le av→a' aw av aa ao→Q .normal a ao)
 {listed:Array Bool} (ca:listed.size=ops.size) (d_:∀j,j<ops.size→(listed.getD j false=true↔j≠i)) (fuel:Nat) (ay:1≤fuel):wpAnyIn (ch rd) 0 P .any ops Q fuel listed a w:=by
 have gd:i<ops.size:=(Array.getElem?_eq_some_iff.1 cl).1
 have fN:i<listed.size:=by rw [ca];exact gd
 cases fuel with
 | zero=>omega
 | succ fuel=>
   refine ⟨fun aJ=>absurd (xx hL ca aJ i gd) (fun h=>((d_ i gd).1 h) rfl),fun j bK=>?_⟩
   obtain ⟨zK,uG⟩:=u0 ca bK
   have pI:j=i:=by
    rcases Nat.decEq j i with dI | he
    · exact absurd ((d_ j zK).2 dI) uG
    · exact he
   subst pI
   refine pv bG cN dq cl he k.size (fun t aF=>k.ar t (Nat.le_of_ble_eq_true (List.all_eq_true.1 (jB he).2 t aF))) s fun av x ao an az aN=>?_
   rw [aZ]
   refine wpAnyIn_done ?_ (cZ av ao an aN) fuel
   cases aJ:Region.ready .any ops (listed.setIfInBounds j true) with
   | nil=>rfl
   | cons m ms=>
     exfalso
     have hm:m ∈ Region.ready .any ops (listed.setIfInBounds j true):=by rw [aJ];simp
     obtain ⟨m1,m2⟩:=u0 (by simp [ca]) hm
     refine m2 ((fr fN).2 ?_)
     by_cases OM:m=j
     · exact .inl OM
     · exact .inr ((d_ m m1).2 OM)
theorem ake {rd:Option Nat} {aw:Fr} (bG:ez P) (cN:gk P call) (dq:gu P call) (hL:∀i o,ops[i]? =some o→lr i o=true) {i j:Nat} {o p:Oper} (cl:ops[i]? =some o) (mw:ops[j]? =some p) (nq:i≠j) (aZ:o.dst=none) (lb:p.dst=none)
 {r:bA} {h ab fE ae:af} {v dn u gL:V} (he:(cx P au ops o).run call r h=.val v ab) (ah:(cx P au ops p).run call r ab=.val u ae) (fF:(cx P au ops p).run call r h=.val gL fE) (et:(cx P au ops o).run call r fE=.val dn ae)
 {Q:Exit→Act→World→Prop} {E:Env} {a:Act} {w:World} (k:e8 E au r a) (s:a' aw E h w) (cZ:∀av ao,E.le av→a' aw av ae ao→Q .normal a ao)
 {listed:Array Bool} (ca:listed.size=ops.size) (d_:∀m,m<ops.size→(listed.getD m false=true↔(m≠i∧m≠j))) (fuel:Nat) (ay:2≤fuel):wpAnyIn (ch rd) 0 P .any ops Q fuel listed a w:=by
 have gd:i<ops.size:=(Array.getElem?_eq_some_iff.1 cl).1
 have Cr:j<ops.size:=(Array.getElem?_eq_some_iff.1 mw).1
 have jJ:∀{q:Oper} {H jt:af} {z:V},(cx P au ops q).run call r H=.val z jt→∀t ∈ b5 ops q,Rel E (T.get .bad (al t) r) (a.tmps.getD t undef):=
  fun he t aF=>k.ar t (Nat.le_of_ble_eq_true (List.all_eq_true.1 (jB he).2 t aF))
 cases fuel with
 | zero=>omega
 | succ fuel=>
   refine ⟨fun aJ=>absurd (xx hL ca aJ i gd) (fun h=>((d_ i gd).1 h).1 rfl),fun m hm=>?_⟩
   obtain ⟨m1,m2⟩:=u0 ca hm
   have hb:m=i∨m=j:=by
    rcases Nat.decEq m i with dI | he
    · rcases Nat.decEq m j with adb | ea
      · exact absurd ((d_ m m1).2 ⟨dI,adb⟩) m2
      · exact .inr ea
    · exact .inl he
   rcases hb with rfl | rfl
   · refine pv bG cN dq cl he k.size (jJ he) s fun av x ao an az aN=>?_
     rw [aZ]
     have fN:m<listed.size:=by rw [ca];exact gd
     refine Kn bG cN dq hL mw lb ah (k.mono an) aN (fun cn b4 bS b0=>cZ cn b4 (an.trans bS) b0) (by simp [ca]) (fun z bo=>?_) fuel (by omega)
     rw [fr fN,d_ z bo]
     constructor
     · rintro (rfl | h)
       · exact nq
       · exact h.2
     · intro h
       by_cases zE:z=m
       · exact .inl zE
       · exact .inr ⟨zE,h⟩
   · refine pv bG cN dq mw fF k.size (jJ fF) s fun av x ao an az aN=>?_
     rw [lb]
     have fN:m<listed.size:=by rw [ca];exact Cr
     refine Kn bG cN dq hL cl aZ et (k.mono an) aN (fun cn b4 bS b0=>cZ cn b4 (an.trans bS) b0) (by simp [ca]) (fun z bo=>?_) fuel (by omega)
     rw [fr fN,d_ z bo]
     constructor
     · rintro (rfl | h)
       · exact fun e=>nq e.symm
       · exact h.1
     · intro h
       by_cases zE:z=m
       · exact .inl zE
       · exact .inr ⟨h,zE⟩
theorem Ti {rd:Option Nat} {id:Nat} {a:Act} {w:World} {Q:Exit→Act→World→Prop} (hm:P.follows .mixedOrders=true)
 (h:wpAnyIn (ch rd) 0 P .any ops Q ops.size (Array.replicate ops.size false) a {w with drawn:=w.drawn+1}):(Code.region id ops true).wpIn (ch rd) 0 P Q a w:=by
 refine wpIn_region_draw fun t=>?_
 rw [hm]
 exact wpAnyIn_sound _ _ _ _ _ h
theorem Ks {r bw:bA}:∀{rs:List Nat},(∀t ∈ rs,T.get .bad (al t) bw=T.get .bad (al t) r)→dm bw rs=dm r rs
 | [],_=>rfl
 | t::bO,h=>by
   simp only [dm]
   rw [h t (by simp),Ks (rs:=bO) fun u hu=>h u (by simp [hu])]
theorem aal {all:Array Oper} {o:Oper} {call:dx} {r bw:bA} (h:∀t ∈ b5 all o,T.get .bad (al t) bw=T.get .bad (al t) r) (H:af):(cx P au all o).run call bw H=(cx P au all o).run call r H:=by
 unfold cx
 cases aI:(e3 au o.dst&&jW (b5 all o)) with
 | false=>rfl
 | true=>
   simp only [cond_true]
   cases aH:o.guard with
   | none=>simp only [h5,Ks h]
   | some oA=>
     obtain ⟨j,want⟩:=oA
     simp only
     cases all[j]? with
     | none=>rfl
     | some g=>
       simp only
       cases g.dst with
       | none=>rfl
       | some d=>
         simp only
         cases (Nat.blt d au&&Nat.ble d top) with
         | false=>rfl
         | true=>simp only [cond_true,h5,Ks h]
theorem akd {rd:Option Nat} {aw:Fr} (bG:ez P) (cN:gk P call) (dq:gu P call) (hL:∀i o,ops[i]? =some o→lr i o=true) {l i j:Nat} {b o p:Oper} (qQ:ops[l]? =some b) (cl:ops[i]? =some o) (mw:ops[j]? =some p)
 (fN:l≠i) (OE:l≠j) (nq:i≠j) (aZ:o.dst=none) (lb:p.dst=none) {r bl:bA} {h ab fE ae:af} {z v dn u gL:V}
 (ag:∀H,(cx P au ops b).run call r H=.val z H) (qX:bl=(fj b.dst).run r z) (wS:∀t ∈ b5 ops p,T.get .bad (al t) bl=T.get .bad (al t) r)
 (he:(cx P au ops o).run call bl h=.val v ab) (ah:(cx P au ops p).run call bl ab=.val u ae) (fF:(cx P au ops p).run call bl h=.val gL fE) (et:(cx P au ops o).run call bl fE=.val dn ae)
 {Q:Exit→Act→World→Prop} {E:Env} {a:Act} {w:World} (k:e8 E au r a) (s:a' aw E h w) (cZ:∀av bm ao,E.le av→e8 av au bl bm→a' aw av ae ao→Q .normal bm ao)
 {listed:Array Bool} (ca:listed.size=ops.size) (tO:o4 ops fun k=>listed.getD k false=true) (adQ:∀cI,(ev [] ops.toList)[i]? =some cI→fw cI l=true) (k':∃cI,(ev [] ops.toList)[i]? =some cI)
 (d_:∀m,m<ops.size→(listed.getD m false=true↔(m≠l∧m≠i∧m≠j))) (fuel:Nat) (ay:3≤fuel):wpAnyIn (ch rd) 0 P .any ops Q fuel listed a w:=by
 have ze:l<ops.size:=(Array.getElem?_eq_some_iff.1 qQ).1
 have gd:i<ops.size:=(Array.getElem?_eq_some_iff.1 cl).1
 have Cr:j<ops.size:=(Array.getElem?_eq_some_iff.1 mw).1
 have jJ:∀{E:Env} {a:Act} {q:Oper} {R:bA} {H jt:af} {z:V},e8 E au R a→(cx P au ops q).run call R H=.val z jt→∀t ∈ b5 ops q,Rel E (T.get .bad (al t) R) (a.tmps.getD t undef):=
  fun k he t aF=>k.ar t (Nat.le_of_ble_eq_true (List.all_eq_true.1 (jB he).2 t aF))
 have QG:∀(L:Array Bool),(o4 ops fun k=>L.getD k false=true)→¬L.getD l false=true→i ∈ Region.ready .any ops L→False:=by
  intro L abS se wJ
  rw [mem_ready] at wJ
  obtain ⟨_,b8,gU,tY⟩:=wJ
  rw [cl] at gU;cases gU
  obtain ⟨cI,k'⟩:=k'
  have wo:o4 ops fun k=>L.getD k false=true∨k=i:=by
   intro k ok e aE bF he ag
   rcases aE with aE | rfl
   · exact .inl (abS k ok e aE bF he ag)
   · rw [cl] at bF;cases bF
     exact .inl (tY e (Array.mem_toList_iff.1 he) (by rw [vK];exact ag))
  rcases zX wo ops.toList [] (fun j=>by simp) (fun k m j aE=>by simp at aE) i cI l k' (adQ cI k') (.inr rfl) with h | h
  · exact se h
  · exact fN h
 have aaq:∀m,m ∈ Region.ready .any ops listed→o4 ops fun k=>(listed.setIfInBounds m true).getD k false=true:=by
  intro m hm k ok e aE bF he ag
  have k9:=hm
  rw [mem_ready] at k9
  obtain ⟨_,db,OT,tY⟩:=k9
  have ON:m<listed.size:=by rw [ca];exact (Array.getElem?_eq_some_iff.1 OT).1
  rw [fr ON] at aE ⊢
  rcases aE with rfl | aE
  · rw [OT] at bF;cases bF
    exact .inr (tY e (Array.mem_toList_iff.1 he) (by rw [vK];exact ag))
  · exact .inr (tO k ok e aE bF he ag)
 cases fuel with
 | zero=>omega
 | succ fuel=>
   refine ⟨fun aJ=>absurd (xx hL ca aJ i gd) (fun h=>((d_ i gd).1 h).2.1 rfl),fun m hm=>?_⟩
   obtain ⟨m1,m2⟩:=u0 ca hm
   have hb:m=l∨m=j:=by
    rcases Nat.decEq m l with cp | aK
    · rcases Nat.decEq m j with gq | aS
      · rcases Nat.decEq m i with n3 | bn
        · exact absurd ((d_ m m1).2 ⟨cp,n3,gq⟩) m2
        · subst bn
          exact (QG listed tO (fun h=>((d_ l ze).1 h).1 rfl) hm).elim
      · exact .inr aS
    · exact .inl aK
   rcases hb with rfl | rfl
   · -- p first
     have kA:m<listed.size:=by rw [ca];exact ze
     refine pv bG cN dq qQ (ag h) k.size (jJ k (ag h)) s fun av x ao an az aN=>?_
     have bz:e8 av au bl (a.put b.dst x):=by rw [qX];exact (k.mono an).put (jB (ag h)).1 az
     refine ake bG cN dq hL cl mw nq aZ lb he ah fF et bz aN (fun cn b4 bS b0=>cZ cn _ b4 (an.trans bS) (bz.mono bS) b0) (by simp [ca]) (fun y a_=>?_) fuel (by omega)
     rw [fr kA,d_ y a_]
     constructor
     · rintro (rfl | h)
       · exact ⟨fN,OE⟩
       · exact h.2
     · intro h
       by_cases zC:y=m
       · exact .inl zC
       · exact .inr ⟨zC,h⟩
   · -- q first
     have kA:m<listed.size:=by rw [ca];exact Cr
     have uj:(cx P au ops p).run call r h=.val gL fE:=by rw [←aal wS];exact fF
     have abT:=aaq m hm
     refine pv bG cN dq mw uj k.size (jJ k uj) s fun av x ao an az aN=>?_
     rw [lb]
     have uv:(listed.setIfInBounds m true).size=ops.size:=by simp [ca]
     cases fuel with
     | zero=>omega
     | succ fuel=>
       refine ⟨fun aJ=>absurd (xx hL uv aJ i gd) (fun h=>?_),fun y a_=>?_⟩
       · rcases (fr kA).1 h with e | h
         · exact nq e
         · exact ((d_ i gd).1 h).2.1 rfl
       obtain ⟨ek,eJ⟩:=u0 uv a_
       have adX:y=l:=by
        rcases Nat.decEq y l with cp | aK
        · rcases Nat.decEq y i with n3 | bn
          · exfalso
            refine eJ ((fr kA).2 ?_)
            by_cases zC:y=m
            · exact .inl zC
            · exact .inr ((d_ y ek).2 ⟨cp,n3,zC⟩)
          · subst bn
            refine (QG _ abT (fun h=>?_) a_).elim
            rcases (fr kA).1 h with e | h
            · exact OE e
            · exact ((d_ l ze).1 h).1 rfl
        · exact aK
       subst adX
       have bt:=k.mono an
       refine pv bG cN dq qQ (ag fE) bt.size (jJ bt (ag fE)) aN fun cn ct b4 t1 t2 t3=>?_
       have bz:e8 cn au bl (a.put b.dst ct):=by rw [qX];exact (bt.mono t1).put (jB (ag h)).1 t2
       have HO:y < (listed.setIfInBounds m true).size:=by rw [uv];exact ze
       refine Kn bG cN dq hL cl aZ et bz t3 (fun en kk bS b0=>cZ en _ kk (an.trans (t1.trans bS)) (bz.mono bS) b0) (by simp [ca]) (fun g aH=>?_) fuel (by omega)
       rw [fr HO,fr kA,d_ g aH]
       constructor
       · rintro (rfl | rfl | h)
         · exact fN
         · exact fun e=>nq e.symm
         · exact h.2.1
       · intro h
         by_cases aK:g=y
         · exact .inl aK
         · by_cases aS:g=m
           · exact .inr (.inl aS)
           · exact .inr (.inr ⟨aK,h,aS⟩)
theorem GJ {rd:Option Nat} {aw:Fr} {E:Env} {h:af} {w:World} {id:Nat} (cY:P.follows .mixedOrders=true) (bG:ez P) (cN:gk P call) (dq:gu P call) {r:bA} {a:Act}
 {Q:Exit→Act→World→Prop} (k:e8 E au r a) (s:a' aw E h w) {es:List eE} {e7:bA} {bf:af} {order aD eb:List Nat} {N M:Nat} (C:Cert P au ops (fun _=>call) es r h e7 bf eb order aD N M false)
 (cZ:N=ops.size→∀av bm ao,E.le av→e8 av au e7 bm→a' aw av bf ao→Q .normal bm ao)
 (hJ:∀av bm ao x v aa,E.le av→N<ops.size→ops.size≤M→(∃i0 hy,ops[i0]? =some hy∧posOf aD i0=N∧(cx P au ops hy).run call e7 bf=.cH v aa)→e8 av au (ni r ops.toList) bm→Rel av v x→a' aw av aa ao→Q (.panic (oJ x)) bm ao)
 (dP:M<ops.size→∀(fuel:Nat) (listed:Array Bool) av bm ao,(List.range ops.size).countP (fun i=>!listed.getD i false)≤fuel→listed.size=ops.size→o4 ops (fun k=>listed.getD k false=true)→(∀k,k<ops.size→(listed.getD k false=true↔posOf aD k<N))→
   E.le av→e8 av au e7 bm→a' aw av bf ao→wpAnyIn (ch rd) 0 P .any ops Q fuel listed bm ao):
 (Code.region id ops true).wpIn (ch rd) 0 P Q a w:=by
 have da:∀k,¬(Array.replicate ops.size false).getD k false=true:=by
  intro k
  rw [r4,Array.getElem?_replicate]
  split<;>simp
 have jk:Holds aw aw es bf aD (jd ops es bf aD (Array.replicate ops.size false) 0):=
  ⟨rfl,fun _ _=>rfl,fun k aE=>(by obtain ⟨_,_,_,_,bb⟩:=aE;omega),fun k bt aE=>(by obtain ⟨_,_,_,_,bb⟩:=aE;omega)⟩
 obtain ⟨fA,dR,g1,g2,g3,g4,g5,g6⟩:=C.advance N 0 (by omega) (fun k o _ _ _=>da k) aw jk (E:=E) (w:={w with drawn:=w.drawn}) (by rw [C.bb];exact s.same rfl rfl rfl rfl)
 have kx:∀(av:Env) (bm:Act),E.le av→bm.defers=a.defers→∀(bw:bA),T.get .bad eF bw=T.get .bad eF r→ko av (T.get .bad eF bw) bm.defers:=fun av bm he aZ bw qW=>by rw [qW,aZ];exact k.defers.mono he
 have Ck:T.get .bad eF e7=T.get .bad eF r:=by
  have:=C.GK N (Nat.le_refl _)
  have HW:es[N]? =none:=List.getElem?_eq_none (by rw [C.len];exact Nat.le_refl _)
  simpa [dX,HW] using this
 refine Ti cY (Ng bG (fun _=>cN) (fun _=>dq) C (fQ:=E) (D:=a.defers)
  (fun aU av bm ao an az aN bM=>cZ aU av bm ao an ⟨az,kx av bm an aN e7 Ck⟩ bM)
  (fun av bm ao x v aa an az JJ aN bM dL eP hi=>hJ av bm ao x v aa an az JJ aN ⟨bM,kx av bm an dL _ BO⟩ eP hi)
  (fun g0 fuel listed av bm ao g1 g2 g3 g4 an az aN bM=>dP g0 fuel listed av bm ao g1 g2 g3 g4 an ⟨az,kx av bm an aN e7 Ck⟩ bM) ops.size _ a _ ?_ ?_)
 · exact Nat.le_trans List.countP_le_length (by simp)
 · refine ⟨by simp,k.size,rfl,fun bt aE=>absurd aE (da bt),fun bt o e aE=>absurd aE (da bt),E,fA,dR,Env.le.refl E,g1,g3,fun bt o ab ae=>⟨fun h=>absurd h (da bt),fun h=>by have:=g4 bt o ab ae (Nat.zero_le _);omega⟩,
    fun bt o _ _ h=>absurd h (da bt),g5,?_,fun t aF=>.inr ⟨fun bt o aE=>absurd aE (da bt),k.ar t aF⟩⟩
   exact g6.same rfl rfl rfl rfl
theorem Q9 {n:Nat} {order aD:List Nat} (gp:kN n order aD=true):order.length=n∧(∀k,k<n→posOf aD k<n∧order[posOf aD k]? =some k)∧∀p,p<n→∃i,i<n∧posOf aD i=p:=by
 unfold kN at gp
 simp only [Bool.and_eq_true,Nat.beq_eq] at gp
 obtain ⟨ns,wL,zi,zj⟩:=gp
 refine ⟨ns,fun k aE=>?_,fun p ah=>?_⟩
 · have aH:aD[k]? =some (posOf aD k):=by
    unfold posOf
    rw [List.getElem?_eq_getElem (by omega)]
    rfl
   have:=sG zi aH
   rw [Nat.zero_add] at this
   exact ⟨by have:=(List.getElem?_eq_some_iff.1 this).1;omega,this⟩
 · have aH:order[p]? =some (order[p]'(by omega)):=List.getElem?_eq_getElem (by omega)
   have:=sG zj aH
   rw [Nat.zero_add] at this
   refine ⟨order[p]'(by omega),by have:=(List.getElem?_eq_some_iff.1 this).1;omega,?_⟩
   unfold posOf
   rw [this]
   rfl
theorem akb {order aD:List Nat} (ay:AB P ops order aD=true):3≤ops.size∧∀i o,ops[i]? =some o→∃cI,(ev [] ops.toList)[i]? =some cI∧lr i o=true∧
 (posOf aD i<ops.size-3→∀k ok,ops[k]? =some ok→posOf aD k<ops.size-3→∃mk,(ev [] ops.toList)[k]? =some mk∧nH i cI (b5 ops o) o.dst k mk ok (Nat.blt (posOf aD k) (posOf aD i))=true∧(eH P o.op=true→dT P ok=true→posOf aD k<posOf aD i→fw cI k=true))∧
 (¬posOf aD i<ops.size-3→DZ P ops order aD (ops.size-3) i cI o=true):=by
 unfold AB at ay
 simp only [Bool.and_eq_true,Nat.ble_eq] at ay
 refine ⟨ay.1,fun i o aC=>?_⟩
 obtain ⟨cI,ab,ae⟩:=oY ay.2 i o (by simpa using aC)
 simp only [Nat.zero_add,Bool.and_eq_true] at ae
 refine ⟨cI,ab,ae.1,fun aL k ok aE nr=>?_,fun iO=>?_⟩
 · have aG:=ae.2
   rw [show Nat.blt (posOf aD i) (ops.size-3)=true from by rw [Nat.blt_eq];exact aL] at aG
   simp only [cond_true] at aG
   obtain ⟨mk,bz,bZ⟩:=oY aG k ok (by simpa using aE)
   simp only [Nat.zero_add] at bZ
   rw [show Nat.blt (posOf aD k) (ops.size-3)=true from by rw [Nat.blt_eq];exact nr] at bZ
   simp only [cond_true,Bool.and_eq_true] at bZ
   refine ⟨mk,bz,bZ.1,fun aK aS aL=>?_⟩
   have fu:=bZ.2
   rw [aK,aS,Bool.true_and,show Nat.blt (posOf aD k) (posOf aD i)=true from by rw [Nat.blt_eq];exact aL] at fu
   exact fu
 · have aG:=ae.2
   rw [show Nat.blt (posOf aD i) (ops.size-3)=false from by rw [←Bool.not_eq_true,Nat.blt_eq];exact iO] at aG
   exact aG
theorem akc {order aD:List Nat} {N i cI p:Nat} {o Dr:Oper} (ah:order[N]? =some p) (kC:ops[p]? =some Dr) (h:DZ P ops order aD N i cI o=true):
 (∀k,k<ops.size→posOf aD k<N→fw cI k=true)∧(posOf aD i=N→eH P o.op=false∧looks o.op=false)∧(posOf aD i≠N→∃x,ri o=some x)∧
 (posOf aD i=N+1→fw cI p=true)∧(posOf aD i=N+2→∀t ∈ b5 ops o,Dr.dst≠some t):=by
 unfold DZ at h
 rw [ah] at h
 simp only [Bool.and_eq_true] at h
 obtain ⟨⟨ab,ae⟩,aG,ba⟩:=h
 refine ⟨fun k aE HF=>?_,fun e=>?_,fun e=>?_,fun e=>?_,fun e t aF=>?_⟩
 · obtain ⟨mk,bz,bZ⟩:=oY ab k ops[k] (by simp)
   simp only [Nat.zero_add] at bZ
   rw [show Nat.blt (posOf aD k) N=true from by rw [Nat.blt_eq];exact HF] at bZ
   exact bZ
 · rw [ho,if_pos e] at ae
   simpa using ae
 · rw [ho,if_neg e] at ae
   exact Option.isSome_iff_exists.1 ae
 · rw [ho,if_pos e] at aG
   exact aG
 · rw [ho,if_pos e,kC] at ba
   simp only at ba
   intro aZ
   rw [aZ] at ba
   simp only [Bool.not_eq_true'] at ba
   rw [show (b5 ops o).contains t=true from by simpa using aF] at ba
   cases ba
theorem Hp {es:List eE} {bf:af} {N p:Nat} (ah:p≤N):b_ (es.take N) (b_ es bf N) p=b_ es bf p:=by
 by_cases h:p<N
 · cases he:es[p]? with
   | some e=>simp [b_,h,he]
   | none=>
     have aU:es[N]? =none:=List.getElem?_eq_none (by have:=List.getElem?_eq_none_iff.1 he;omega)
     simp [b_,h,he,aU]
 · have:p=N:=by omega
   subst this
   simp [b_,List.getElem?_take]
theorem RR {es:List eE} {e7:bA} {N p:Nat} (ah:p≤N):dX (es.take N) (dX es e7 N) p=dX es e7 p:=by
 by_cases h:p<N
 · cases he:es[p]? with
   | some e=>simp [dX,h,he]
   | none=>
     have aU:es[N]? =none:=List.getElem?_eq_none (by have:=List.getElem?_eq_none_iff.1 he;omega)
     simp [dX,h,he,aU]
 · have:p=N:=by omega
   subst this
   simp [dX,List.getElem?_take]
theorem Vl {order:List Nat} {es:List eE} {N i j:Nat} {o p:Oper} {e f:eE} {x y:Operand} (bq:Bj ops order es N=true) (aC:order[N]? =some i) (bK:order[N+1]? =some j) (cl:ops[i]? =some o) (mw:ops[j]? =some p)
 (he:es[N]? =some e) (ay:es[N+1]? =some f) (aq:ri o=some x) (a_:ri p=some y) {b c:aP} {off lq:Nat} (ag:(bQ x).run (dm e.r (b5 ops o))=.ptr b off) (aI:(bQ y).run (dm f.r (b5 ops p))=.ptr c lq):b≠c:=by
 unfold Bj Kl at bq
 simp only [aC,bK,cl,mw,he,ay,aq,a_,ag,aI] at bq
 intro h
 subst h
 rw [aP.yQ] at bq
 cases bq
set_option maxHeartbeats 2000000 in
theorem aas {rd:Option Nat} {aw:Fr} {E:Env} {h:af} {w:World} {id:Nat} (cY:P.follows .mixedOrders=true) (bG:ez P) (cN:gk P call) (dq:gu P call) {r:bA} {a:Act} {order aD:List Nat} (gp:kN ops.size order aD=true) (gH:AB P ops order aD=true)
 {Q:Exit→Act→World→Prop} (ah:mm aw E au (Q .normal) Q (GI ops order (ff P au ops (gK ops order)) (qy P au ops (ev [] ops.toList) aD (gZ P aD 0 ops.toList) 0 ops.toList) call r h)) (k:e8 E au r a) (s:a' aw E h w):(Code.region id ops true).wpIn (ch rd) 0 P Q a w:=by
 obtain ⟨ns,hz,kh⟩:=Q9 gp
 obtain ⟨ae,gH⟩:=akb gH
 unfold GI at ah
 cases cG:(ff P au ops (gK ops order)).run call r h with
 | fail=>rw [cG] at ah;exact ah.elim
 | cH _ _ _ _ _=>rw [cG] at ah;exact ah.elim
 | ok es e7 bf=>
   rw [cG] at ah
   simp only at ah
   obtain ⟨N,ab1⟩:∃N,N=ops.size-3:=⟨_,rfl⟩
   rw [←ab1] at ah gH
   cases aA:(Bj ops order es (N+1)&&(qy P au ops (ev [] ops.toList) aD (gZ P aD 0 ops.toList) 0 ops.toList).run call (es.take N) (b_ es bf N)) with
   | false=>rw [aA] at ah;exact ah.elim
   | true=>
     rw [aA] at ah
     simp only [cond_true] at ah
     simp only [Bool.and_eq_true] at aA
     obtain ⟨Ch,yX⟩:=aA
     obtain ⟨an,az,aN,bM⟩:=sQ cG
     have hlen:es.length=ops.size:=by rw [an,oH,ns]
     have inj:∀i j,i<ops.size→j<ops.size→posOf aD i=posOf aD j→i=j:=by
      intro i j aC bK he
      have a:=(hz i aC).2
      have b:=(hz j bK).2
      rw [he,b] at a
      cases a
      rfl
     obtain ⟨lj,r7,wq⟩:=kh N (by omega)
     obtain ⟨nv,wk,wm⟩:=kh (N+1) (by omega)
     obtain ⟨pR,og,r6⟩:=kh (N+2) (by omega)
     have y_:ops[lj]? =some ops[lj]:=Array.getElem?_eq_getElem r7
     have Cp:ops[nv]? =some ops[nv]:=Array.getElem?_eq_getElem wk
     have Cq:ops[pR]? =some ops[pR]:=Array.getElem?_eq_getElem og
     have H3:=(hz lj r7).2
     have H0:=(hz nv wk).2
     have H2:=(hz pR og).2
     rw [wq] at H3
     rw [wm] at H0
     rw [r6] at H2
     have wU:∀i o,ops[i]? =some o→¬posOf aD i<N→∃cI,(ev [] ops.toList)[i]? =some cI∧(∀k,k<ops.size→posOf aD k<N→fw cI k=true)∧(posOf aD i=N→eH P o.op=false∧looks o.op=false)∧(posOf aD i≠N→∃x,ri o=some x)∧
      (posOf aD i=N+1→fw cI lj=true)∧(posOf aD i=N+2→∀t ∈ b5 ops o,ops[lj].dst≠some t):=by
      intro i o aC iO
      obtain ⟨cI,cF,_,_,z4⟩:=gH i o aC
      exact ⟨cI,cF,akc H3 y_ (z4 iO)⟩
     obtain ⟨amv,_,_,aj_,_⟩:=wU lj _ y_ (by omega)
     obtain ⟨CZ,OJ,_,_,aj9,ak,_⟩:=wU nv _ Cp (by omega)
     obtain ⟨IV,al',_,_,aj',_,JO⟩:=wU pR _ Cq (by omega)
     obtain ⟨Nl,ag0⟩:=aj_ wq
     obtain ⟨amZ,Is⟩:=aj9 (by omega)
     obtain ⟨am0,It⟩:=aj' (by omega)
     have ak:=ak wm
     have JO:=JO r6
     obtain ⟨GO,eg,gh,pU⟩:=bM _ _ (l7 H3 y_)
     obtain ⟨tE,bH,a2,a3⟩:=bM _ _ (l7 H0 Cp)
     obtain ⟨Nk,cC,ck,hF⟩:=bM _ _ (l7 H2 Cq)
     obtain ⟨amP,am4,ahE,M0,alQ⟩:=Kk Is
     obtain ⟨amQ,am5,amB,M1,alR⟩:=Kk It
     have da:es[N+2+1]? =none:=List.getElem?_eq_none (by omega)
     have ac2:b_ es bf (N+2+1)=bf:=by simp [b_,da]
     have aja:dX es e7 (N+2+1)=e7:=by simp [dX,da]
     have ab0:b_ es bf N=GO.h:=by simp [b_,eg]
     have aiR:dX es e7 N=GO.r:=by simp [dX,eg]
     have abY:b_ es bf (N+1)=tE.h:=by simp [b_,bH]
     have aiP:dX es e7 (N+1)=tE.r:=by simp [dX,bH]
     have abZ:b_ es bf (N+1+1)=Nk.h:=by simp [b_,cC]
     have aiQ:dX es e7 (N+1+1)=Nk.r:=by simp [dX,cC]
     rw [aiP] at pU
     rw [abY] at gh
     rw [M0,aiQ] at a3
     rw [M1,aja] at hF
     simp only [fj] at a3 hF
     rw [abZ] at a2
     rw [ac2] at ck
     obtain ⟨abX,Ha⟩:=tD Nl gh
     have Ha:=Ha ag0
     obtain ⟨L4,amC,aev,aid,Se,akB⟩:=Nc Is a2
     obtain ⟨E7,amD,PK,aie,ajs,akC⟩:=Nc It ck
     have dI:L4≠E7:=Vl Ch H0 H2 Cp Cq bH cC Is It aid aie
     have G':=akC tE.h (by rw [Se,af.c4,if_neg dI])
     have yW:=akB (tE.h.set E7 PK) (by rw [af.c4,if_neg (fun e=>dI e.symm)])
     have acm:(tE.h.set E7 PK).set L4 aev=bf:=by rw [af.set_comm _ (fun e=>dI e.symm),←Se,←ajs]
     rw [acm] at yW
     rw [a3] at G' ck
     have uu:e7=tE.r:=hF.trans a3
     have ac':∀m,m<ops.size→(posOf aD m<N↔(m≠lj∧m≠nv∧m≠pR)):=by
      intro m hm
      have OW:=(hz m hm).1
      constructor
      · intro h
        exact ⟨fun e=>by subst e;omega,fun e=>by subst e;omega,fun e=>by subst e;omega⟩
      · rintro ⟨cA,cp,gq⟩
        have vM:posOf aD m≠N:=fun e=>cA (inj m lj hm r7 (by rw [e,wq]))
        have bu:posOf aD m≠N+1:=fun e=>cp (inj m nv hm wk (by rw [e,wm]))
        have bI:posOf aD m≠N+2:=fun e=>gq (inj m pR hm og (by rw [e,r6]))
        omega
     have acj:dT P ops[nv]=true:=by unfold dT gg;rw [ahE];rfl
     have wS:∀t ∈ b5 ops ops[pR],T.get .bad (al t) tE.r=T.get .bad (al t) GO.r:=by
      intro t aF
      have wW:t≤top:=Nat.le_of_ble_eq_true (List.all_eq_true.1 (jB ck).2 t aF)
      rw [pU,N1 (jB gh).1 wW,if_neg (JO t aF)]
     have hd:∀i o,ops[i]? =some o→posOf aD i<N→∃e,(es.take N)[posOf aD i]? =some e∧(cx P au ops o).run call e.r e.h=.val e.v (b_ (es.take N) (b_ es bf N) (posOf aD i+1))∧dX (es.take N) (dX es e7 N) (posOf aD i+1)=(fj o.dst).run e.r e.v:=by
      intro i o aT aC
      obtain ⟨e,cF,z2,z3⟩:=bM _ o (l7 (hz i (Array.getElem?_eq_some_iff.1 aT).1).2 aT)
      refine ⟨e,by simp [aC,cF],?_,?_⟩
      · rw [Hp (by omega)];exact z2
      · rw [RR (by omega)];exact z3
     have C:Cert P au ops (fun _=>call) (es.take N) r h (dX es e7 N) (b_ es bf N) (N::gZ P aD 0 ops.toList) order aD N N false:=
      ⟨by simp [hlen];omega,by omega,Nat.le_refl _,hz,kh,by rw [Hp (Nat.zero_le _)];exact az,by rw [RR (Nat.zero_le _)];exact aN,hd,
        fun i o aT=>by
         obtain ⟨cI,cF,z2,z3,_⟩:=gH i o aT
         exact ⟨cI,cF,z2,fun aC k ok aE HE=>by
          obtain ⟨mk,ek,eJ,y3⟩:=z3 aC k ok aE HE
          exact ⟨mk,ek,eJ,fun a b c=>.inl (y3 a b c)⟩⟩,
        by simp,
        fun j o ab ae=>List.mem_cons_of_mem _ (by simpa using xf (aD:=aD) (i:=0) (j:=j) (l:=ops.toList) (by simpa using ab) ae),
        fun s aQ=>by
         rcases List.mem_cons.1 aQ with rfl | aQ
         · exact .inl (.inr ⟨rfl,rfl⟩)
         · rcases ss aQ with h | ⟨j,o,ab,ae,aG⟩
           · exact .inl (.inl (by simpa using h))
           · exact .inr ⟨j,o,by simpa using ab,ae,by simpa using aG⟩,
        fun j o ab ae aG ba=>by
         obtain ⟨e,g1,_⟩:=hd j o ab ba
         have O9:=E1 yX j o (by simpa using ab) ae aG e (by simpa using g1)
         refine ⟨e,g1,fun s aQ hm=>?_⟩
         rcases List.mem_cons.1 aQ with rfl | aQ
         · have lW:q8 P (ev [] ops.toList) ops.toList aD j (((ev [] ops.toList)[j]?).getD 0) (s+1)=true:=by
            unfold q8 at hm ⊢
            refine KL (by rw [I0];simp) fun c6 mk ok ek eJ=>?_
            obtain ⟨mk',bj,ct⟩:=oY hm c6 ok eJ
            rw [ek] at bj;cases bj
            simp only [Nat.zero_add] at ct ⊢
            have bF:ops[c6]? =some ok:=by simpa using eJ
            have nr:=(Array.getElem?_eq_some_iff.1 bF).1
            by_cases h7:posOf aD c6=s
            · have:c6=lj:=inj c6 lj nr r7 (by rw [h7,wq])
              subst this
              rw [y_] at bF;cases bF
              have ada:dT P ops[c6]=false:=by unfold dT;rw [Nl];rfl
              rw [ada]
              rfl
            · have:Nat.blt (posOf aD c6) (s+1)=Nat.blt (posOf aD c6) s:=by
               rw [Bool.eq_iff_iff,Nat.blt_eq,Nat.blt_eq]
               omega
              rw [this]
              exact ct
           have wJ:s+1 ∈ gZ P aD 0 ops.toList:=by rw [←wm];simpa using xf (P:=P) (aD:=aD) (i:=0) (j:=nv) (l:=ops.toList) (by simp) acj
           obtain ⟨aa,g3⟩:=O9 (s+1) wJ (by simpa using lW)
           refine ⟨call,aa,⟨cN,dq⟩,?_⟩
           have aK:b_ (es.take s) (b_ es bf s) (s+1)=b_ es bf s:=by
            have:(es.take s)[s+1]? =none:=List.getElem?_eq_none (by simp;omega)
            simp only [b_,this]
           have aS:b_ (es.take s) (b_ es bf s) s=b_ es bf s:=Hp (Nat.le_refl _)
           rw [aK] at g3
           rw [aS]
           exact g3
         · obtain ⟨aa,g3⟩:=O9 s aQ (by simpa using hm)
           exact ⟨call,aa,⟨cN,dq⟩,g3⟩,
        fun _=>⟨rfl,fun c6 ok mk aE iO HQ j bK za=>by
         obtain ⟨cI,cF,z2,_⟩:=wU c6 ok aE (by omega)
         rw [HQ] at cF;cases cF
         exact z2 j bK za⟩,
        fun ab ae=>by omega⟩
     refine GJ cY bG cN dq k s C (fun h=>by omega) (fun _ _ _ _ _ _ _ _ h=>by omega) (fun _ fuel listed av bm ao g1 g2 g3 g4 g5 g6 g7=>?_)
     rw [aiR] at g6
     rw [ab0] at g7
     rw [abX] at a2 G' yW
     refine akd bG cN dq (fun i o aT=>by obtain ⟨cI,_,z2,_⟩:=gH i o aT;exact z2) y_ Cp Cq (fun e=>by rw [e] at wq;omega) (fun e=>by rw [e] at wq;omega) (fun e=>by rw [e] at wm;omega) M0 M1
      Ha pU wS a2 ck G' yW g6 g7 (fun cn a2 b4 bS b0 cB=>ah cn a2 b4 (g5.trans bS) (by rw [uu];exact b0) cB) g2 g3 (fun cI k'=>by rw [OJ] at k';cases k';exact ak) ⟨CZ,OJ⟩ (fun m hm=>(g4 m hm).trans (ac' m hm)) fuel ?_
     have GA:∀(L:Array Bool) (x:Nat),L.size=ops.size→x<ops.size→¬L.getD x false=true→(List.range ops.size).countP (fun k=>!(L.setIfInBounds x true).getD k false) < (List.range ops.size).countP (fun k=>!L.getD k false):=by
      intro L x ei aq aU
      have w1:x<L.size:=by rw [ei];exact aq
      refine BD (fun k=>!L.getD k false) (fun k=>!(L.setIfInBounds x true).getD k false) (List.range ops.size) (fun k _ aE=>?_) ⟨x,List.mem_range.2 aq,?_,?_⟩
      · simp only [Bool.not_eq_true'] at aE ⊢
        cases aA:L.getD k false with
        | false=>rfl
        | true=>
          have:=(fr (k:=k) w1).2 (.inr aA)
          rw [aE] at this
          cases this
      · cases aA:L.getD x false with
        | false=>rfl
        | true=>exact absurd aA aU
      · have:=(fr (k:=x) w1).2 (.inl rfl)
        simp [this]
     have ahf:¬listed.getD lj false=true:=fun h=>by have:=(g4 lj r7).1 h;omega
     have ahd:¬listed.getD nv false=true:=fun h=>by have:=(g4 nv wk).1 h;omega
     have ahe:¬listed.getD pR false=true:=fun h=>by have:=(g4 pR og).1 h;omega
     have bu:=GA listed lj g2 r7 ahf
     have bI:=GA (listed.setIfInBounds lj true) nv (by simp [g2]) wk (fun h=>by
      rcases (fr (by rw [g2];exact r7)).1 h with e | h
      · rw [e] at wm;omega
      · exact ahd h)
     have c3:=GA ((listed.setIfInBounds lj true).setIfInBounds nv true) pR (by simp [g2]) og (fun h=>by
      rcases (fr (by simp [g2];exact wk)).1 h with e | h
      · rw [e] at r6;omega
      · rcases (fr (by rw [g2];exact r7)).1 h with e | h
        · rw [e] at r6;omega
        · exact ahe h)
     omega
end
end Go.Proofs.YthemdhlheglhoaaGreatDoor.aX
namespace Go.Proofs.YthemdhlheglhoaaGreatDoor.aX
variable [Lay]
open Go Go.RowKit
section
variable {P:Program} {au:Nat} {ops:Array Oper} {call:dx}
inductive nT {α β:Type} (R:α→β→Prop):List α→List β→Prop
 | nil:nT R [] []
 | cons {a:α} {b:β} {IT:List α} {IU:List β} (h:R a b) (t:nT R IT IU):nT R (a::IT) (b::IU)
def uZ (ops:Array Oper) (t:Nat) (listed:Array Bool):Option Nat:=(Region.ready .any ops listed)[t % (Region.ready .any ops listed).length]?
theorem go_succ (fuel t:Nat) (listed:Array Bool):Region.linearise.go .any ops (fuel+1) t listed []=match uZ ops t listed with
 | some i=>i::Region.linearise.go .any ops fuel (t / (Region.ready .any ops listed).length) (listed.setIfInBounds i true) []
 | none=>[]:=by
 simp only [Region.linearise.go]
 change (match (Region.ready .any ops listed)[t % (Region.ready .any ops listed).length]? with
  | some i=>Region.linearise.go .any ops fuel (t / (Region.ready .any ops listed).length) (listed.setIfInBounds i true) [i]
  | none=>[].reverse)=_
 unfold uZ
 cases (Region.ready .any ops listed)[t % (Region.ready .any ops listed).length]? with
 | none=>rfl
 | some i=>
   simp only
   rw [linearise_go_acc,List.reverse_singleton,List.singleton_append]
theorem RO {t:Nat} {listed:Array Bool} (h:uZ ops t listed=none):Region.ready .any ops listed=[]:=by
 unfold uZ at h
 cases aJ:Region.ready .any ops listed with
 | nil=>rfl
 | cons x xs=>
   rw [aJ] at h
   have aL:t % (x::xs).length < (x::xs).length:=Nat.mod_lt _ (by simp)
   rw [List.getElem?_eq_getElem aL] at h
   cases h
theorem JR {t i:Nat} {listed:Array Bool} (h:uZ ops t listed=some i):i ∈ Region.ready .any ops listed:=List.mem_of_getElem? h
theorem count_set {listed:Array Bool} {i:Nat} (ca:listed.size=ops.size) (aC:i<ops.size) (aU:¬listed.getD i false=true):
 (List.range ops.size).countP (fun k=>!(listed.setIfInBounds i true).getD k false) < (List.range ops.size).countP (fun k=>!listed.getD k false):=by
 have ai:i<listed.size:=by rw [ca];exact aC
 refine BD (fun k=>!listed.getD k false) (fun k=>!(listed.setIfInBounds i true).getD k false) (List.range ops.size) (fun k _ aE=>?_) ⟨i,List.mem_range.2 aC,?_,?_⟩
 · simp only [Bool.not_eq_true'] at aE ⊢
   cases aA:listed.getD k false with
   | false=>rfl
   | true=>
     have:=(fr (k:=k) ai).2 (.inr aA)
     rw [aE] at this
     cases this
 · cases aA:listed.getD i false with
   | false=>rfl
   | true=>exact absurd aA aU
 · have:=(fr (k:=i) ai).2 (.inl rfl)
   simp [this]
theorem N4 (hL:∀i o,ops[i]? =some o→lr i o=true):∀(fuel t:Nat) (listed:Array Bool),listed.size=ops.size→(List.range ops.size).countP (fun i=>!listed.getD i false)≤fuel→
 (Region.linearise.go .any ops fuel t listed []).Nodup∧(∀k ∈ Region.linearise.go .any ops fuel t listed [],k<ops.size∧¬listed.getD k false=true)∧
  ∀k,k<ops.size→listed.getD k false=true∨k ∈ Region.linearise.go .any ops fuel t listed []
 | 0,t,listed,ca,aI=>by
   have e:Region.linearise.go .any ops 0 t listed []=[]:=rfl
   rw [e]
   refine ⟨List.nodup_nil,fun k aE=>by simp at aE,fun k aE=>.inl ?_⟩
   have bb:(List.range ops.size).countP (fun i=>!listed.getD i false)=0:=by omega
   rw [List.countP_eq_zero] at bb
   simpa using bb k (List.mem_range.2 aE)
 | fuel+1,t,listed,ca,aI=>by
   rw [go_succ]
   cases aJ:uZ ops t listed with
   | none=>
     simp only
     exact ⟨List.nodup_nil,fun k aE=>by simp at aE,fun k aE=>.inl (xx hL ca (RO aJ) k aE)⟩
   | some i=>
     simp only
     obtain ⟨i1,i2⟩:=u0 ca (JR aJ)
     have ai:i<listed.size:=by rw [ca];exact i1
     have:=count_set ca i1 i2
     obtain ⟨g1,g2,g3⟩:=N4 hL fuel (t / (Region.ready .any ops listed).length) (listed.setIfInBounds i true) (by simp [ca]) (by omega)
     refine ⟨List.nodup_cons.2 ⟨fun hm=>(g2 i hm).2 ((fr ai).2 (.inl rfl)),g1⟩,fun k aE=>?_,fun k aE=>?_⟩
     · rcases List.mem_cons.1 aE with rfl | aE
       · exact ⟨i1,i2⟩
       · exact ⟨(g2 k aE).1,fun h=>(g2 k aE).2 ((fr ai).2 (.inr h))⟩
     · rcases g3 k aE with h | h
       · rcases (fr ai).1 h with rfl | h
         · exact .inr (by simp)
         · exact .inl h
       · exact .inr (by simp [h])
theorem DV {o:Oper} {os:List Oper} {r:bA} {h:af} {es:List eE} {cV:bA} {ay:af} (he:(ff P au ops (o::os)).run call r h=.ok es cV ay):
 ∃v ab gR,(cx P au ops o).run call r h=.val v ab∧(ff P au ops os).run call ((fj o.dst).run r v) ab=.ok gR cV ay∧es=⟨r,h,v⟩::gR:=by
 simp only [ff,AA] at he
 cases ab:(cx P au ops o).run call r h with
 | fail=>rw [ab] at he;cases he
 | cH _ _=>rw [ab] at he;simp only at he;cases hm:kL o.op<;>rw [hm] at he<;>cases he
 | val v bf=>
   rw [ab] at he
   simp only at he
   cases ae:(ff P au ops os).run call ((fj o.dst).run r v) bf with
   | fail=>rw [ae] at he;cases he
   | cH _ _ _ _ _=>rw [ae] at he;cases he
   | ok gR bl aG=>
     rw [ae] at he
     simp only [o3.ok.injEq] at he
     obtain ⟨rfl,rfl,rfl⟩:=he
     exact ⟨v,bf,gR,rfl,ae,rfl⟩
theorem DW {o:Oper} {os:List Oper} {r:bA} {h ab:af} {v:V} {gR:List eE} {cV:bA} {ay:af} (bb:(cx P au ops o).run call r h=.val v ab) (ae:(ff P au ops os).run call ((fj o.dst).run r v) ab=.ok gR cV ay):
 (ff P au ops (o::os)).run call r h=.ok (⟨r,h,v⟩::gR) cV ay:=by
 simp only [ff,AA,bb,ae]
theorem Ki:∀(eg gh:List Oper) {r:bA} {h:af} {es:List eE} {cV:bA} {ay:af},(ff P au ops (eg++gh)).run call r h=.ok es cV ay→
 ∃gR bl ab px,(ff P au ops eg).run call r h=.ok gR bl ab∧(ff P au ops gh).run call bl ab=.ok px cV ay∧es=gR++px
 | [],gh,r,h,es,cV,ay,he=>⟨[],r,h,es,rfl,he,rfl⟩
 | o::os,gh,r,h,es,cV,ay,he=>by
   obtain ⟨v,ab,gR,an,az,rfl⟩:=DV he
   obtain ⟨GW,bl,aG,px,g1,g2,rfl⟩:=Ki os gh az
   exact ⟨⟨r,h,v⟩::GW,bl,aG,px,DW an g1,g2,rfl⟩
theorem Kj:∀(eg gh:List Oper) {r bl cV:bA} {h ab ay:af} {gR px:List eE},(ff P au ops eg).run call r h=.ok gR bl ab→(ff P au ops gh).run call bl ab=.ok px cV ay→
 (ff P au ops (eg++gh)).run call r h=.ok (gR++px) cV ay
 | [],gh,r,bl,cV,h,ab,ay,gR,px,he,ae=>by
   simp only [ff,o3.ok.injEq] at he
   obtain ⟨rfl,rfl,rfl⟩:=he
   exact ae
 | o::os,gh,r,bl,cV,h,ab,ay,gR,px,he,ae=>by
   obtain ⟨v,aG,GW,an,az,rfl⟩:=DV he
   exact DW an (Kj os gh az ae)
theorem Ae:∀(a b:List Nat),gK ops (a++b)=gK ops a++gK ops b
 | [],b=>rfl
 | x::xs,b=>by simp [gK,Ae xs b]
theorem RJ:∀(l:List Oper),(∀o ∈ l,eH P o.op=false∧looks o.op=false)→∀{r cV:bA} {h ay:af} {es:List eE},(ff P au ops l).run call r h=.ok es cV ay→
 ay=h∧∀H:af,∃hq,(ff P au ops l).run call r H=.ok hq cV H
 | [],_,r,cV,h,ay,es,he=>by
   simp only [ff,o3.ok.injEq] at he
   obtain ⟨rfl,rfl,rfl⟩:=he
   exact ⟨rfl,fun H=>⟨[],rfl⟩⟩
 | o::os,aA,r,cV,h,ay,es,he=>by
   obtain ⟨v,ab,gR,an,az,rfl⟩:=DV he
   obtain ⟨aK,aS⟩:=aA o (by simp)
   obtain ⟨d1,d2⟩:=tD aK an
   subst d1
   obtain ⟨g1,g2⟩:=RJ os (fun b8 gU=>aA b8 (by simp [gU])) az
   refine ⟨g1,fun H=>?_⟩
   obtain ⟨hq,g3⟩:=g2 H
   exact ⟨_,DW (d2 aS H) g3⟩
theorem zG {o:Oper} {A:vm} (h:kG o=some A):o.op=.insert A.t A.m A.k A.x∧o.dst=none∧o.guard=none:=by
 unfold kG at h
 split at h
 case h_2=>cases h
 rename_i t m k x aT
 split at h
 case h_2=>cases h
 rename_i aZ
 split at h
 case h_2=>cases h
 rename_i aH
 cases h
 exact ⟨aT,aZ,aH⟩
theorem RA {e:dw} {k v:V} {c:Nat}:∀{es:List cO},(∀m ∈ es,e.run k m.k=some false)→kO e k v c es=some (es++[⟨k,v,c⟩],true)
 | [],_=>rfl
 | m::ms,h=>by
   simp only [kO,h m (by simp),cond_false,RA (es:=ms) fun cj lW=>h cj (by simp [lW]),List.cons_append]
theorem aam {o:Oper} {A:vm} (wG:zM P A.t=true) (lR:kG o=some A) {r:bA} {H1 cq:af} {v:V} (he:(cx P au ops o).run call r H1=.val v cq) {b:aP} (ag:(bQ A.m).run (dm r (b5 ops o))=.map b):
 ∀(H:af) es c,H.get b=.mp es c→(∀m ∈ es,(so P A.t).run ((bQ A.k).run (dm r (b5 ops o))) m.k=some false)→
  (cx P au ops o).run call r H=.val .bad (H.set b (.mp (es++[⟨(bQ A.k).run (dm r (b5 ops o)),(bQ A.x).run (dm r (b5 ops o)),c⟩]) (c+1))):=by
 obtain ⟨aT,aZ,aH⟩:=zG lR
 obtain ⟨ab,ae⟩:=jB he
 have key:cx P au ops o=⟨h5 none (e1 P o) (b5 ops o)⟩:=by
  unfold cx
  rw [show (e3 au o.dst&&jW (b5 ops o))=true from by rw [ab,ae];rfl,aH]
  rfl
 rw [key] at he ⊢
 simp only [h5] at he ⊢
 have tT:∀H,(e1 P o).run call (dm r (b5 ops o)) H=gB .bad ((nP P A.t).run H (.map b) ((bQ A.k).run (dm r (b5 ops o))) ((bQ A.x).run (dm r (b5 ops o)))):=by
  intro H
  unfold e1
  rw [aT]
  simp only [ag]
 rw [tT] at he
 have adO:nP P A.t=⟨mN (so P A.t)⟩:=by
  cases aQ:(nP P A.t).run H1 (.map b) ((bQ A.k).run (dm r (b5 ops o))) ((bQ A.x).run (dm r (b5 ops o))) with
  | none=>rw [aQ] at he;cases he
  | some aG=>
    unfold nP at aQ ⊢
    unfold so
    cases aF:a8 P A.t with
    | none=>rw [aF] at aQ;cases aQ
    | some aO=>
      rw [aF] at aQ
      simp only at aQ ⊢
      cases bU:aO.bd<;>rw [bU] at aQ<;>simp only at aQ ⊢<;>try (cases aQ;done)
      rename_i cm jC
      cases gT:a8 P cm with
      | none=>rw [gT] at aQ;cases aQ
      | some gY=>
        rw [gT] at aQ
        simp only at aQ ⊢
        cases ay:mA gY.bd with
        | false=>
          unfold zM at wG
          rw [aF] at wG
          simp only [bU,gT,ay] at wG
          cases wG
        | true=>rfl
 intro H es c j8 aE
 rw [tT,adO]
 simp only [mN,j8,cb.kg,RA aE,gB,cond_true]
theorem aeh {o:Oper} {r:bA} {b:aP} {m:cO} (h:sl ops r b o=some m):∃A,kG o=some A∧(bQ A.m).run (dm r (b5 ops o))=.map b∧m.k=(bQ A.k).run (dm r (b5 ops o))∧m.v=(bQ A.x).run (dm r (b5 ops o)):=by
 unfold sl at h
 cases bq:kG o with
 | none=>rw [bq] at h;cases h
 | some A=>
   rw [bq] at h
   simp only at h
   cases hm:(bQ A.m).run (dm r (b5 ops o))<;>rw [hm] at h<;>simp only at h<;>try (cases h;done)
   obtain ⟨aI,ab⟩:=ef h
   have:=aP.kr aI
   subst this
   cases ab
   exact ⟨A,rfl,hm,rfl,rfl⟩
def jZ (ops:Array Oper) (r:bA) (b:aP) (i:Nat) (m:cO):Prop:=∃o,ops[i]? =some o∧sl ops r b o=some m
theorem jZ.GF {r:bA} {b:aP} {i:Nat} {m cj:cO} (h:jZ ops r b i m) (aa:jZ ops r b i cj):m=cj:=by
 obtain ⟨o,ab,ae⟩:=h
 obtain ⟨b8,aG,ba⟩:=aa
 rw [ab] at aG;cases aG
 rw [ae] at ba;cases ba
 rfl
theorem CM {r:bA} {b:aP}:∀{is:List Nat} {ms:List cO},uE ops r b is=some ms→nT (jZ ops r b) is ms
 | [],ms,h=>by simp only [uE,Option.some.injEq] at h;subst h;exact .nil
 | i::is,ms,h=>by
   simp only [uE] at h
   cases aT:ops[i]? with
   | none=>rw [aT] at h;cases h
   | some o=>
     rw [aT] at h
     simp only at h
     cases hm:sl ops r b o with
     | none=>rw [hm] at h;cases h
     | some m=>
       rw [hm] at h
       simp only at h
       cases aQ:uE ops r b is with
       | none=>rw [aQ] at h;cases h
       | some amx=>
         rw [aQ] at h
         simp only [Option.some.injEq] at h
         subst h
         exact .cons ⟨o,aT,hm⟩ (CM aQ)
theorem PB {x:Option Bool} (h:isFalse x=true):x=some false:=by
 cases x with
 | none=>cases h
 | some b=>cases b<;>simp_all [isFalse]
theorem EW {e:dw} {m:cO}:∀{ms:List cO},Bk e m ms=true→∀cj ∈ ms,e.run m.k cj.k=some false∧e.run cj.k m.k=some false
 | [],_,cj,h=>by simp at h
 | x::xs,h,cj,hm=>by
   simp only [Bk,Bool.and_eq_true] at h
   rcases List.mem_cons.1 hm with rfl | hm
   · exact ⟨PB h.1,PB h.2.1⟩
   · exact EW h.2.2 cj hm
theorem LQ {r:bA} {b:aP} {e:dw}:∀{is:List Nat} {ms:List cO},nT (jZ ops r b) is ms→is.Nodup→yw e ms=true→∀i j m cj,i ∈ is→j ∈ is→i≠j→jZ ops r b i m→jZ ops r b j cj→e.run m.k cj.k=some false
 | _,_,.nil,_,_,i,_,_,_,aC,_,_,_,_=>by simp at aC
 | _,_,.cons (a:=x) (b:=dK) (IT:=xs) (IU:=ahc) bb aF,aU,bq,i,j,m,cj,aC,bK,nq,hm,lW=>by
   simp only [yw,Bool.and_eq_true] at bq
   rw [List.nodup_cons] at aU
   have Po:∀k n,k ∈ xs→jZ ops r b k n→n ∈ ahc:=by
    intro k n aE acY
    have gen:∀{is:List Nat} {ms:List cO},nT (jZ ops r b) is ms→k ∈ is→n ∈ ms:=by
     intro is ms ay
     induction ay with
     | nil=>intro aE;simp at aE
     | cons ab _ bk=>
       intro aE
       rcases List.mem_cons.1 aE with rfl | aE
       · rw [acY.GF ab];simp
       · exact List.mem_cons_of_mem _ (bk aE)
    exact gen aF aE
   rcases List.mem_cons.1 aC with OB | aC
   · rcases List.mem_cons.1 bK with HD | bK
     · exact absurd (OB.trans HD.symm) nq
     · rw [OB] at hm
       rw [hm.GF bb]
       exact (EW bq.1 cj (Po j cj bK lW)).1
   · rcases List.mem_cons.1 bK with HD | bK
     · rw [HD] at lW
       rw [lW.GF bb]
       exact (EW bq.1 m (Po i m aC hm)).2
     · exact LQ aF aU.2 bq.2 i j m cj aC bK nq hm lW
theorem IC {ib:bA} {b:aP} {e:dw} {I:List Nat} (qM:∀i ∈ I,∃o A m,ops[i]? =some o∧kG o=some A∧(zM P A.t=true∧so P A.t=e)∧sl ops ib b o=some m∧∃v H1 cq,(cx P au ops o).run call ib H1=.val v cq)
 (Cg:∀i j m cj,i ∈ I→j ∈ I→i≠j→jZ ops ib b i m→jZ ops ib b j cj→e.run m.k cj.k=some false):
 ∀(τ:List Nat) (done:List Nat) (ds:List cO) (c:Nat) (H:af),(∀i ∈ τ,i ∈ I)→(∀i ∈ done,i ∈ I)→(done++τ).Nodup→(∀m ∈ ds,∃i ∈ done,∃cj,jZ ops ib b i cj∧m.k=cj.k)→H.get b=.mp ds c→
  ∃es ms gP jt,(ff P au ops (gK ops τ)).run call ib H=.ok es ib jt∧jt.get b=.mp (ds++ms) gP∧(∀k,b≠k→jt.get k=H.get k)∧(∀k,jt.set b k=H.set b k)∧(∀e ∈ es,∀k,b≠k→e.h.get k=H.get k)∧
   nT (fun i (m:cO)=>∃cj,jZ ops ib b i cj∧m.k=cj.k∧m.v=cj.v) τ ms
 | [],done,ds,c,H,_,_,_,_,j8=>⟨[],[],c,H,rfl,by rw [List.append_nil];exact j8,fun _ _=>rfl,fun _=>rfl,fun e he=>by simp at he,.nil⟩
 | i::τ,done,ds,c,H,CI,Ou,lY,wB,j8=>by
   obtain ⟨o,A,m,aT,lR,⟨wG,ud⟩,hm,v,H1,cq,cT⟩:=qM i (CI i (by simp))
   obtain ⟨jc,N_,ag,aE,aq⟩:=aeh hm
   rw [lR] at N_;cases N_
   have pL:i ∉ done:=fun h=>by
    rw [List.nodup_append] at lY
    exact lY.2.2 i h i (by simp) rfl
   have hd:=aam wG lR cT ag H ds c j8 (fun cj lW=>by
    obtain ⟨j,bK,ag9,acB,acX⟩:=wB cj lW
    rw [acX,ud,←aE]
    exact Cg i j m ag9 (CI i (by simp)) (Ou j bK) (fun e=>pL (e ▸ bK)) ⟨o,aT,hm⟩ acB)
   obtain ⟨_,aZ,_⟩:=zG lR
   obtain ⟨es,ms,gP,jt,g1,g2,g3,g4,g6,g5⟩:=IC qM Cg τ (done++[i]) (ds++[⟨(bQ A.k).run (dm ib (b5 ops o)),(bQ A.x).run (dm ib (b5 ops o)),c⟩]) (c+1)
    (H.set b (.mp (ds++[⟨(bQ A.k).run (dm ib (b5 ops o)),(bQ A.x).run (dm ib (b5 ops o)),c⟩]) (c+1))) (fun j bK=>CI j (by simp [bK]))
    (fun j bK=>by
      rcases List.mem_append.1 bK with h | h
      · exact Ou j h
      · simp only [List.mem_singleton] at h;subst h;exact CI j (by simp)) (by simpa using lY)
    (fun cj lW=>by
      rcases List.mem_append.1 lW with h | h
      · obtain ⟨j,bK,r⟩:=wB cj h
        exact ⟨j,by simp [bK],r⟩
      · simp only [List.mem_singleton] at h;subst h
        exact ⟨i,by simp,m,⟨o,aT,hm⟩,aE.symm⟩) (by rw [af.c4,if_pos rfl])
   have O6:=DW (os:=gK ops τ) hd (by rw [aZ];exact g1)
   rw [show o::gK ops τ=gK ops (i::τ) from by simp [gK,aT]] at O6
   refine ⟨_,⟨(bQ A.k).run (dm ib (b5 ops o)),(bQ A.x).run (dm ib (b5 ops o)),c⟩::ms,gP,jt,O6,by rw [g2,List.append_assoc];rfl,fun k aE=>?_,fun k=>?_,fun dj et k aE=>?_,.cons ⟨m,⟨o,aT,hm⟩,aE.symm,aq.symm⟩ g5⟩
   · rw [g3 k aE,af.c4,if_neg aE]
   · rw [g4]
     unfold af.set
     simp only [T.RE]
   · rcases List.mem_cons.1 et with rfl | et
     · rfl
     · rw [g6 dj et k aE,af.c4,if_neg aE]
def o9 (E:Env):List (V × V)→List MapEntry→Prop
 | [],l=>l=[]
 | p::bg,l=>∃e es,l=e::es∧Rel E p.1 e.key∧Rel E p.2 e.val∧o9 E bg es
theorem o9.perm {E:Env} {bg i_:List (V × V)} (h:bg.Perm i_):∀{l:List MapEntry},o9 E i_ l→∃cR,o9 E bg cR∧cR.Perm l:=by
 induction h with
 | nil=>intro l h;exact ⟨l,h,.refl _⟩
 | cons x _ bk=>
   intro l h
   obtain ⟨e,es,rfl,ab,ae,aG⟩:=h
   obtain ⟨cR,g1,g2⟩:=bk aG
   exact ⟨e::cR,⟨e,cR,rfl,ab,ae,g1⟩,g2.cons e⟩
 | swap x y iH=>
   intro l h
   obtain ⟨e,es,rfl,ab,ae,dj,hq,rfl,aG,ba,cz⟩:=h
   exact ⟨dj::e::hq,⟨dj,_,rfl,aG,ba,e,hq,rfl,ab,ae,cz⟩,List.Perm.swap _ _ _⟩
 | trans _ _ zF uz=>
   intro l h
   obtain ⟨eg,g1,g2⟩:=uz h
   obtain ⟨gh,g3,g4⟩:=zF g1
   exact ⟨gh,g3,g4.trans g2⟩
theorem o9.QN {E:Env}:∀{ms:List cO} {l:List MapEntry},ee E ms l→o9 E (ms.map fun m=>(m.k,m.v)) l
 | [],l,h=>h
 | m::ms,l,h=>by
   obtain ⟨e,es,rfl,ab,ae,_,ba⟩:=h
   exact ⟨e,es,rfl,ab,ae,o9.QN ba⟩
theorem mq.QO {E:Env}:∀{ms:List cO} {l:List MapEntry},o9 E (ms.map fun m=>(m.k,m.v)) l→mq E ms l
 | [],l,h=>h
 | m::ms,l,h=>by
   obtain ⟨e,es,rfl,ab,ae,ba⟩:=h
   exact ⟨e,es,rfl,ab,ae,mq.QO ba⟩
theorem a'.forget {aw:Fr} {E:Env} {h:af} {w:World} (s:a' aw E h w) {b:aP} {p:ih} {es ms:List cO} {c:Nat} (aH:h.get b=.mp es c) (ah:E b=some p) (gp:(ms.map fun m=>(m.k,m.v)).Perm (es.map fun m=>(m.k,m.v))):
 a' aw E (h.set b (.iz ms)) w:=by
 have ag:=s.at ah
 rw [aH] at ag
 obtain ⟨p',a,fF,c2,bf,hm⟩:=ag
 rw [ah] at fF;cases fF
 obtain ⟨l,g1,g2⟩:=o9.perm gp (o9.QN hm)
 exact s.set (by rw [aH];rfl) ah c2 (Nat.le_refl _) (fun _ _=>rfl) rfl rfl rfl (fun _ _ _ e=>by cases e) ⟨p,a,c,l,ah,c2,bf,mq.QO g1,g2⟩
theorem Px:∀(l:List Oper),(∀o ∈ l,o.dst=none)→∀{r cV:bA} {h ay:af} {es:List eE},(ff P au ops l).run call r h=.ok es cV ay→∀o ∈ l,∃v H1 cq,(cx P au ops o).run call r H1=.val v cq
 | [],_,_,_,_,_,_,_,o,aT=>by simp at aT
 | x::xs,aZ,r,cV,h,ay,es,he,o,aT=>by
   obtain ⟨v,ab,gR,an,az,rfl⟩:=DV he
   rcases List.mem_cons.1 aT with rfl | aT
   · exact ⟨v,h,ab,an⟩
   · rw [aZ x (by simp)] at az
     exact Px xs (fun b8 gU=>aZ b8 (by simp [gU])) az o aT
theorem agY {t:TypeId} {H H1:af} {c:aP} {off:Nat} (h:H.get c=H1.get c):(oG P t).run H (.ptr c off)=(oG P t).run H1 (.ptr c off):=by
 unfold oG
 cases a8 P t with
 | none=>rfl
 | some aO=>
   simp only
   cases aO.agg with
   | true=>simp only [cond_true,l4,V.h',h]
   | false=>
     simp only [cond_false]
     cases Nat.beq aO.size 1 with
     | true=>simp only [cond_true,l5,V.h',h]
     | false=>rfl
theorem aao {o:Oper} {t:TypeId} {x:Operand} (aT:o.op=.load t x) (aH:o.guard=none) {r:bA} {H1 aa:af} {v:V} (he:(cx P au ops o).run call r H1=.val v aa) {c:aP} {off:Nat} (aq:(bQ x).run (dm r (b5 ops o))=.ptr c off)
 (H:af) (j8:H.get c=H1.get c):(cx P au ops o).run call r H=.val v H:=by
 obtain ⟨ab,ae⟩:=jB he
 have key:cx P au ops o=⟨h5 none (e1 P o) (b5 ops o)⟩:=by
  unfold cx
  rw [show (e3 au o.dst&&jW (b5 ops o))=true from by rw [ab,ae];rfl,aH]
  rfl
 rw [key] at he ⊢
 simp only [h5] at he ⊢
 have tT:∀H,(e1 P o).run call (dm r (b5 ops o)) H=aY.of H ((oG P t).run H (.ptr c off)):=by
  intro H
  unfold e1
  rw [aT]
  simp only [aq]
 rw [tT] at he ⊢
 rw [agY j8]
 exact aY.uV he H
theorem Qj {es:List eE} {h:af} {b:aP}:∀{is:List Nat} {p:Nat},zW P ops es h b call au is p=true→∀q i o t x,is[q]? =some i→ops[i]? =some o→o.op=.load t x→
 ∃e c off aa,es[p+q]? =some e∧(bQ x).run (dm e.r (b5 ops o))=.ptr c off∧c≠b∧o.guard=none∧(cx P au ops o).run call e.r h=.val e.v aa
 | [],_,_,q,i,o,t,x,h,_,_=>by simp at h
 | j::aeu,p,ai,q,i,o,t,x,aA,aT,la=>by
   simp only [zW] at ai
   cases q with
   | succ q=>
     cases bK:ops[j]? with
     | none=>rw [bK] at ai;cases ai
     | some amE=>
       rw [bK] at ai
       simp only [Bool.and_eq_true] at ai
       have:=Qj ai.2 q i o t x (by simpa using aA) aT la
       rw [show p + (q+1)=p+1+q from by omega]
       exact this
   | zero=>
     simp only [List.getElem?_cons_zero,Option.some.injEq] at aA
     subst aA
     rw [aT] at ai
     simp only [Bool.and_eq_true] at ai
     have ab:=ai.1
     rw [la] at ab
     simp only at ab
     rw [Nat.add_zero]
     cases he:es[p]? with
     | none=>rw [he] at ab;cases ab
     | some e=>
       rw [he] at ab
       simp only at ab
       cases aq:(bQ x).run (dm e.r (b5 ops o))<;>rw [aq] at ab<;>simp only at ab<;>try (cases ab;done)
       rename_i c off
       simp only [Bool.and_eq_true,Bool.not_eq_true'] at ab
       cases aH:o.guard with
       | some _=>rw [aH] at ab;cases ab.2
       | none=>
         rw [aH] at ab
         simp only at ab
         have ae:=ab.2
         cases aJ:(cx P au ops o).run call e.r h with
         | fail=>rw [aJ] at ae;cases ae
         | cH _ _=>rw [aJ] at ae;cases ae
         | val v aa=>
           rw [aJ] at ae
           have bs:=GV ae
           exact ⟨e,c,off,aa,rfl,aq,(fun e=>by rw [e,aP.yQ] at ab;cases ab.1),rfl,by rw [aJ,bs]⟩
theorem w4 {k:Nat}:∀{l:List Nat} {p:Nat},l.Nodup→l[p]? =some k→l.idxOf k=p
 | [],_,_,h=>by simp at h
 | x::xs,p,aU,h=>by
   rw [List.nodup_cons] at aU
   cases p with
   | zero=>
     simp only [List.getElem?_cons_zero,Option.some.injEq] at h
     subst h
     simp
   | succ p=>
     have aq:xs[p]? =some k:=by simpa using h
     have dI:x≠k:=fun e=>aU.1 (e ▸ List.mem_of_getElem? aq)
     rw [List.idxOf_cons]
     simp only [beq_iff_eq,dI,cond_false,show (x == k)=false from by simpa using dI]
     rw [w4 aU.2 aq]
def lk (ops:Array Oper) (i:Nat):Bool:=
 match ops[i]? with
 | some o=>ka o
 | none=>false
theorem CO {o:Oper} {A:vm} (h:kG o=some A):ka o=true∧eH P o.op=true∧gg o=false:=by
 obtain ⟨aT,_,_⟩:=zG h
 refine ⟨by unfold ka;rw [aT],by rw [aT];rfl,by unfold gg;rw [aT]⟩
theorem agS {aD:List Nat} {cA cp:Nat} {t:TypeId} (ay:zU P ops aD cA cp t=true):∀i o,ops[i]? =some o→∃cI,(ev [] ops.toList)[i]? =some cI∧lr i o=true∧
 (∀k ok,ops[k]? =some ok→∃mk,(ev [] ops.toList)[k]? =some mk∧nH i cI (b5 ops o) o.dst k mk ok (Nat.blt (posOf aD k) (posOf aD i))=true)∧
 (posOf aD i<cA→ka o=false∧dT P o=false∧(looks o.op=true→eH P o.op=false→∃t x,o.op=.load t x))∧
 (¬posOf aD i<cA→posOf aD i<cp→∃A,kG o=some A∧A.t=t)∧
 (¬posOf aD i<cA→¬posOf aD i<cp→eH P o.op=false∧looks o.op=false):=by
 unfold zU at ay
 simp only [Bool.and_eq_true] at ay
 replace ay:=ay.2
 intro i o aC
 obtain ⟨cI,ab,ae⟩:=oY ay i o (by simpa using aC)
 simp only [Nat.zero_add,Bool.and_eq_true] at ae
 obtain ⟨⟨aG,ba⟩,cz⟩:=ae
 refine ⟨cI,ab,aG,fun k ok aE=>?_,fun aL=>?_,fun iO aL=>?_,fun iO acH=>?_⟩
 · obtain ⟨mk,bz,bZ⟩:=oY ba k ok (by simpa using aE)
   simp only [Nat.zero_add] at bZ
   exact ⟨mk,bz,bZ⟩
 · rw [show Nat.blt (posOf aD i) cA=true from by rw [Nat.blt_eq];exact aL] at cz
   simp only [cond_true,Bool.and_eq_true,Bool.not_eq_true',Bool.or_eq_true] at cz
   refine ⟨cz.1.1,cz.1.2,fun ai he=>?_⟩
   rcases cz.2 with (h | h) | h
   · rw [ai] at h;cases h
   · rw [he] at h;cases h
   · cases la:o.op<;>rw [la] at h<;>simp only at h<;>first
      | (cases h;done)
      | exact ⟨_,_,rfl⟩
 · rw [show Nat.blt (posOf aD i) cA=false from by rw [←Bool.not_eq_true,Nat.blt_eq];exact iO,show Nat.blt (posOf aD i) cp=true from by rw [Nat.blt_eq];exact aL] at cz
   simp only [cond_true,cond_false] at cz
   cases bq:kG o with
   | none=>rw [bq] at cz;cases cz
   | some A=>rw [bq] at cz;exact ⟨A,rfl,Nat.eq_of_beq_eq_true cz⟩
 · rw [show Nat.blt (posOf aD i) cA=false from by rw [←Bool.not_eq_true,Nat.blt_eq];exact iO,show Nat.blt (posOf aD i) cp=false from by rw [←Bool.not_eq_true,Nat.blt_eq];exact acH] at cz
   simp only [cond_false,Bool.and_eq_true,Bool.not_eq_true'] at cz
   exact cz
theorem agT {order:List Nat} {es:List eE} {cA:Nat} {b:aP} {ib:bA} {A:vm} (h:CX ops order es cA=some (b,ib,A)):
 ∃e i o,es[cA]? =some e∧order[cA]? =some i∧ops[i]? =some o∧kG o=some A∧e.r=ib:=by
 unfold CX at h
 cases he:es[cA]? with
 | none=>rw [he] at h;cases h
 | some e=>
   rw [he] at h
   simp only at h
   cases aC:order[cA]? with
   | none=>rw [aC] at h;cases h
   | some i=>
     rw [aC] at h
     simp only at h
     cases aT:ops[i]? with
     | none=>rw [aT] at h;cases h
     | some o=>
       rw [aT] at h
       simp only at h
       cases bq:kG o with
       | none=>rw [bq] at h;cases h
       | some jc=>
         rw [bq] at h
         simp only at h
         cases hm:(bQ jc.m).run (dm e.r (b5 ops o))<;>rw [hm] at h<;>simp only at h<;>try (cases h;done)
         simp only [Option.some.injEq,Prod.mk.injEq] at h
         obtain ⟨_,ae,rfl⟩:=h
         exact ⟨e,i,o,rfl,rfl,aT,bq,ae⟩
theorem Qr {r:bA} {b:aP} {f:Nat→V × V} (ay:∀i m,jZ ops r b i m→f i=(m.k,m.v)):∀{is:List Nat} {ms:List cO},nT (fun i (m:cO)=>∃cj,jZ ops r b i cj∧m.k=cj.k∧m.v=cj.v) is ms→ms.map (fun m=>(m.k,m.v))=is.map f
 | _,_,.nil=>rfl
 | _,_,.cons (a:=i) (b:=m) bb aF=>by
   obtain ⟨cj,ab,ae,aG⟩:=bb
   simp only [List.map_cons,Qr ay aF,ay i cj ab,ae,aG]
theorem xu {n:Nat} {order aD:List Nat} (gp:kN n order aD=true) {p i:Nat} (h:order[p]? =some i):posOf aD i=p∧i<n:=by
 unfold kN at gp
 simp only [Bool.and_eq_true,Nat.beq_eq] at gp
 obtain ⟨_,ae,_,ba⟩:=gp
 have:=sG ba h
 rw [Nat.zero_add] at this
 refine ⟨by unfold posOf;rw [this];rfl,?_⟩
 have:=(List.getElem?_eq_some_iff.1 this).1
 omega
theorem aht {l:List Nat} {f:Nat→Nat} (h:∀p i,l[p]? =some i→f i=p):l.Nodup:=by
 rw [List.Nodup,List.pairwise_iff_getElem]
 intro i j aC bK nq he
 have ab:=h i _ (List.getElem?_eq_getElem aC)
 have ae:=h j _ (List.getElem?_eq_getElem bK)
 rw [he,ae] at ab
 omega
theorem nT.left {α β:Type} {R:α→β→Prop}:∀{eg:List α} {gh:List β},nT R eg gh→∀x ∈ eg,∃y ∈ gh,R x y
 | _,_,.nil,x,h=>by simp at h
 | _,_,.cons bb aF,x,h=>by
   rcases List.mem_cons.1 h with rfl | h
   · exact ⟨_,by simp,bb⟩
   · obtain ⟨y,ab,ae⟩:=aF.left x h
     exact ⟨y,by simp [ab],ae⟩
theorem aeo {o:Oper} (h:ka o=true):eH P o.op=true∧gg o=false:=by
 unfold ka at h
 unfold gg
 cases aT:o.op<;>rw [aT] at h<;>simp only at h<;>first
  | (cases h;done)
  | exact ⟨rfl,rfl⟩
theorem akn {pre σ post:List Nat} (lY:(pre++(σ++post)).Nodup) (k q:Nat):(pre[q]? =some k→(pre++(σ++post)).idxOf k=q)∧(σ[q]? =some k→(pre++(σ++post)).idxOf k=pre.length+q)∧(post[q]? =some k→(pre++(σ++post)).idxOf k=pre.length+σ.length+q):=by
 refine ⟨fun h=>w4 lY ?_,fun h=>w4 lY ?_,fun h=>w4 lY ?_⟩
 · have:=(List.getElem?_eq_some_iff.1 h).1
   rw [List.getElem?_append_left this]
   exact h
 · have:=(List.getElem?_eq_some_iff.1 h).1
   rw [List.getElem?_append_right (by omega),Nat.add_sub_cancel_left,List.getElem?_append_left this]
   exact h
 · rw [List.getElem?_append_right (by omega),List.getElem?_append_right (by omega)]
   rw [show pre.length+σ.length+q-pre.length-σ.length=q from by omega]
   exact h
theorem agU {rd:Option Nat} {D:List Deferred} {aw:Fr} {calls:Nat→dx} {es:List eE} {bE:bA} {bb:af} {cV:bA} {ay:af} {eb order aD:List Nat} (bG:ez P) (cN:∀i,gk P (calls i)) (dq:∀i,gu P (calls i))
 (C:Cert P au ops calls es bE bb cV ay eb order aD ops.size ops.size true) {fQ:Env} {Q:Exit→Act→World→Prop}
 (cZ:∀av bm ao,fQ.le av→RegRel0 av au cV bm→bm.defers=D→a' aw av ay ao→Q .normal bm ao) {vz:List Nat}
 (dO:∀i k,lk ops i=true→lk ops k=true→posOf aD k<posOf aD i→∀a b,vz=a++i::b→k ∈ a):
 ∀(fuel t:Nat) (listed:Array Bool) (done:List Nat) (a:Act) (w:World),vz=done++Region.linearise.go .any ops fuel t listed []→(∀k,k<ops.size→(listed.getD k false=true↔k ∈ done))→
  (List.range ops.size).countP (fun i=>!listed.getD i false)≤fuel→o2 P aw au ops es bE ay eb aD fQ ops.size D listed a w→wpOpsIn (ch rd) 0 P ops Q (Region.linearise.go .any ops fuel t listed []) a w:=by
 have hL:∀i o,ops[i]? =some o→lr i o=true:=fun i o h=>by obtain ⟨_,_,ae,_⟩:=C.lP i o h;exact ae
 have fin:∀(listed:Array Bool) (a:Act) (w:World),(∀k,k<ops.size→listed.getD k false=true)→o2 P aw au ops es bE ay eb aD fQ ops.size D listed a w→Q .normal a w:=by
  intro listed a w d_ I
  obtain ⟨av,g1,g2,g3,g4⟩:=M8 C (Nat.le_refl _) I fun k aE _=>d_ k aE
  exact cZ av a w g1 g2 g3 g4
 intro fuel
 induction fuel with
 | zero=>
   intro t listed done a w oh HJ aI I
   have bb:(List.range ops.size).countP (fun i=>!listed.getD i false)=0:=by omega
   rw [List.countP_eq_zero] at bb
   exact fin listed a w (fun k aE=>by simpa using bb k (List.mem_range.2 aE)) I
 | succ fuel bk=>
   intro t listed done a w oh HJ aI I
   rw [go_succ] at oh ⊢
   cases aJ:uZ ops t listed with
   | none=>exact fin listed a w (fun k aE=>xx hL I.q7 (RO aJ) k aE) I
   | some i=>
     rw [aJ] at oh
     simp only at oh ⊢
     obtain ⟨i1,i2⟩:=u0 I.q7 (JR aJ)
     have ai:i<listed.size:=by rw [I.q7];exact i1
     have al5:=count_set I.q7 i1 i2
     rw [wpOpsIn_cons]
     refine Nh bG cN dq C I (JR aJ) (C.hz i i1).1 (fun _ o k ok cl uc Cs acW aL=>?_) (fun bm ao Ec=>bk _ _ (done++[i]) bm ao (by rw [List.append_assoc];exact oh) (fun k aE=>?_) (by omega) Ec) (fun _ _ _ _ _ _ _ h=>absurd h (Nat.lt_irrefl _))
     · have aE:k<ops.size:=(Array.getElem?_eq_some_iff.1 Cs).1
       exact (HJ k aE).2 (dO i k (by unfold lk;rw [cl];exact uc) (by unfold lk;rw [Cs];exact acW) aL _ _ oh)
     · rw [fr ai,HJ k aE,List.mem_append,List.mem_singleton]
       exact Or.comm
noncomputable def GQ (ops:Array Oper) (r:bA) (b:aP) (i:Nat):V × V:=
 match ops[i]? with
 | some o=>(match sl ops r b o with
   | some m=>(m.k,m.v)
   | none=>(.bad,.bad))
 | none=>(.bad,.bad)
theorem Nn {r:bA} {b:aP} {i:Nat} {m:cO} (h:jZ ops r b i m):GQ ops r b i=(m.k,m.v):=by
 obtain ⟨o,ab,ae⟩:=h
 unfold GQ
 rw [ab]
 simp only [ae]
theorem Qs {r:bA} {b:aP}:∀{is:List Nat} {ms:List cO},nT (jZ ops r b) is ms→ms.map (fun m=>(m.k,m.v))=is.map (GQ ops r b)
 | _,_,.nil=>rfl
 | _,_,.cons bb aF=>by
   simp only [List.map_cons,Qs aF,Nn bb]
set_option maxHeartbeats 1000000 in
theorem agW {rd:Option Nat} {aw:Fr} {E:Env} {h:af} {w:World} {id:Nat} (cY:P.follows .mixedOrders=true) (bG:ez P) (cN:gk P call) (dq:gu P call) {r:bA} {a:Act} {order aD:List Nat} {cA cp:Nat} (gp:kN ops.size order aD=true)
 {Q:Exit→Act→World→Prop} (ah:mm aw E au (Q .normal) Q (IM P au ops order aD cA cp (ff P au ops (gK ops order)) call r h)) (k:e8 E au r a) (s:a' aw E h w):(Code.region id ops true).wpIn (ch rd) 0 P Q a w:=by
 unfold IM at ah
 cases cT:(ff P au ops (gK ops order)).run call r h with
 | fail=>rw [cT] at ah;exact ah.elim
 | cH _ _ _ _ _=>rw [cT] at ah;exact ah.elim
 | ok es e7 bf=>
 rw [cT] at ah
 simp only at ah
 cases lX:CX ops order es cA with
 | none=>rw [lX] at ah;exact ah.elim
 | some x=>
 obtain ⟨b,ib,A⟩:=x
 rw [lX] at ah
 simp only at ah
 cases ji:(b_ es bf cA).get b<;>rw [ji] at ah<;>try (exact False.elim ah)
 rename_i aaH vM
 cases aaH with
 | cons _ _=>exact False.elim ah
 | nil=>
 simp only at ah
 cases ui:uE ops ib b ((order.drop cA).take (cp-cA)) with
 | none=>rw [ui] at ah;exact ah.elim
 | some ms=>
 rw [ui] at ah
 simp only at ah
 cases aI:(zU P ops aD cA cp A.t&&(yw (so P A.t) ms&&(zW P ops es (b_ es bf cA) b call au (order.take cA) 0&&yS ((bQ A.m).run e7) (.map b)))) with
 | false=>rw [aI] at ah;exact ah.elim
 | true=>
 rw [aI] at ah
 simp only [cond_true] at ah
 simp only [Bool.and_eq_true] at aI
 obtain ⟨Ct,Cg,eD,qS⟩:=aI
 have qS:=GV qS
 obtain ⟨ns,Rb,amH⟩:=Q9 gp
 have HT:order.Nodup:=aht fun p i h=>(xu gp h).1
 obtain ⟨cS,i0,hy,Ho,ub,adh,yW,acC⟩:=agT lX
 obtain ⟨aiJ,-,-,-⟩:=sQ cT
 have hlen:es.length=ops.size:=by rw [aiJ,oH,ns]
 have h9:cA<ops.size:=by rw [←ns];exact (List.getElem?_eq_some_iff.1 ub).1
 have lP:=agS Ct
 generalize pM:order.take cA=pre at eD
 generalize uc:(order.drop cA).take (cp-cA)=ins at ui
 generalize OX:(order.drop cA).drop (cp-cA)=post
 have ow:order=pre++(ins++post):=by rw [←pM,←uc,←OX,List.take_append_drop,List.take_append_drop]
 have wO:pre.length=cA:=by rw [←pM,List.length_take];omega
 have al_:cA<cp:=by
  obtain ⟨uj,_⟩:=xu gp ub
  rcases Nat.lt_or_ge cA cp with h | h
  · exact h
  · exfalso
    obtain ⟨_,_,_,_,_,_,f3⟩:=lP i0 hy adh
    obtain ⟨aq,_⟩:=f3 (by omega) (by omega)
    rw [(CO (P:=P) yW).2.1] at aq
    cases aq
 have acS:ins.length=cp-cA∨post=[]:=by
  rcases Nat.lt_or_ge (cp-cA) (order.drop cA).length with h | h
  · left;rw [←uc,List.length_take];omega
  · right;rw [←OX];exact List.drop_eq_nil_of_le h
 have E4:∀q i,pre[q]? =some i→posOf aD i=q∧i<ops.size∧q<cA:=by
  intro q i h
  have aA:=(List.getElem?_eq_some_iff.1 h).1
  obtain ⟨ab,ae⟩:=xu gp (p:=q) (i:=i) (by rw [ow,List.getElem?_append_left aA];exact h)
  exact ⟨ab,ae,by omega⟩
 have E2:∀q i,ins[q]? =some i→posOf aD i=cA+q∧i<ops.size∧cA+q<cp:=by
  intro q i h
  have aA:=(List.getElem?_eq_some_iff.1 h).1
  obtain ⟨ab,ae⟩:=xu gp (p:=cA+q) (i:=i) (by
   rw [ow,List.getElem?_append_right (by omega),wO,Nat.add_sub_cancel_left,List.getElem?_append_left aA];exact h)
  refine ⟨ab,ae,?_⟩
  have:ins.length≤cp-cA:=by rw [←uc,List.length_take];omega
  omega
 have E3:∀q i,post[q]? =some i→posOf aD i=cA+ins.length+q∧i<ops.size∧ins.length=cp-cA:=by
  intro q i h
  have ai:ins.length=cp-cA:=by
   rcases acS with aa | aa
   · exact aa
   · rw [aa] at h;simp at h
  obtain ⟨ab,ae⟩:=xu gp (p:=cA+ins.length+q) (i:=i) (by
   rw [ow,List.getElem?_append_right (by omega),List.getElem?_append_right (by omega),wO,show cA+ins.length+q-cA-ins.length=q from by omega];exact h)
  exact ⟨ab,ae,ai⟩
 have Th:∀i,i<ops.size→(∃q:Nat,pre[q]? =some i)∨(∃q:Nat,ins[q]? =some i)∨∃q:Nat,post[q]? =some i:=by
  intro i aC
  have hm:i ∈ order:=List.mem_of_getElem? (Rb i aC).2
  rw [ow,List.mem_append,List.mem_append] at hm
  rcases hm with h | h | h
  · exact .inl (List.mem_iff_getElem?.1 h)
  · exact .inr (.inl (List.mem_iff_getElem?.1 h))
  · exact .inr (.inr (List.mem_iff_getElem?.1 h))
 have Jx:∀i o,i ∈ pre→ops[i]? =some o→ka o=false∧dT P o=false∧(looks o.op=true→eH P o.op=false→∃t x,o.op=.load t x):=by
  intro i o aC aT
  obtain ⟨q,aA⟩:=List.mem_iff_getElem?.1 aC
  obtain ⟨ab,ae,aG⟩:=E4 q i aA
  obtain ⟨_,_,_,_,f1,_,_⟩:=lP i o aT
  exact f1 (by omega)
 have zH:∀i,i ∈ ins→∃o jc,ops[i]? =some o∧kG o=some jc∧jc.t=A.t:=by
  intro i aC
  obtain ⟨q,aA⟩:=List.mem_iff_getElem?.1 aC
  obtain ⟨ab,ae,aG⟩:=E2 q i aA
  obtain ⟨_,_,_,_,_,f2,_⟩:=lP i _ (Array.getElem?_eq_getElem ae)
  obtain ⟨jc,g1,g2⟩:=f2 (by omega) (by omega)
  exact ⟨_,jc,Array.getElem?_eq_getElem ae,g1,g2⟩
 have Ao:∀i o,i ∈ post→ops[i]? =some o→eH P o.op=false∧looks o.op=false:=by
  intro i o aC aT
  obtain ⟨q,aA⟩:=List.mem_iff_getElem?.1 aC
  obtain ⟨ab,ae,aG⟩:=E3 q i aA
  obtain ⟨_,_,_,_,_,_,f3⟩:=lP i o aT
  exact f3 (by omega) (by omega)
 have Iz:∀i,i<ops.size→(lk ops i=true↔i ∈ ins):=by
  intro i aC
  have cl:ops[i]? =some ops[i]:=Array.getElem?_eq_getElem aC
  constructor
  · intro h
    unfold lk at h
    rw [cl] at h
    simp only at h
    rcases Th i aC with ⟨q,aA⟩ | ⟨q,aA⟩ | ⟨q,aA⟩
    · rw [(Jx i _ (List.mem_of_getElem? aA) cl).1] at h;cases h
    · exact List.mem_of_getElem? aA
    · have:=(Ao i _ (List.mem_of_getElem? aA) cl).1
      rw [(aeo (P:=P) h).1] at this
      cases this
  · intro h
    obtain ⟨o,jc,g1,g2,_⟩:=zH i h
    unfold lk
    rw [g1]
    exact (CO (P:=P) g2).1
 have HU:ins.Nodup:=by
  rw [ow] at HT
  exact (List.nodup_append.1 (List.nodup_append.1 HT).2.1).1
 have zt:=cT
 rw [ow,Ae,Ae] at zt
 obtain ⟨gR,bl,ab,aaI,qX,OZ,nm⟩:=Ki _ _ zt
 obtain ⟨px,bT,ae,GW,kD,ads,al6⟩:=Ki _ _ OZ
 obtain ⟨eg,-,-,-⟩:=sQ qX
 rw [oH,wO] at eg
 obtain ⟨-,b3,b4,-⟩:=sQ OZ
 have Ow:aaI[0]? =some cS:=by
  rw [nm,List.getElem?_append_right (by omega),eg,Nat.sub_self] at Ho
  exact Ho
 have adu:bl=ib:=by
  unfold dX at b4
  rw [Ow] at b4
  exact b4.symm.trans acC
 have acN:b_ es bf cA=ab:=by
  unfold b_ at b3 ⊢
  rw [Ho]
  rw [Ow] at b3
  exact b3
 subst adu
 rw [acN] at ji eD
 have qM:∀i ∈ ins,∃o jc m,ops[i]? =some o∧kG o=some jc∧(zM P jc.t=true∧so P jc.t=so P A.t)∧sl ops bl b o=some m∧∃v H1 cq,(cx P au ops o).run call bl H1=.val v cq:=by
  intro i aC
  obtain ⟨o,jc,g1,g2,g3⟩:=zH i aC
  obtain ⟨m,_,b8,g4,g5⟩:=(CM ui).left i aC
  rw [g1] at g4;cases g4
  refine ⟨o,jc,m,g1,g2,⟨by rw [g3];unfold zU at Ct;rw [Bool.and_eq_true] at Ct;exact Ct.1,by rw [g3]⟩,g5,Px (gK ops ins) (fun dA wL=>?_) kD o ?_⟩
  · obtain ⟨q,aA⟩:=List.mem_iff_getElem?.1 wL
    have sg:q<ins.length:=by rw [←oH (ops:=ops)];exact (List.getElem?_eq_some_iff.1 aA).1
    obtain ⟨Jd,dd,zK,uG,_⟩:=zH _ (List.getElem_mem sg)
    have:=l7 (List.getElem?_eq_getElem sg) zK
    rw [aA] at this;cases this
    exact (zG uG).2.1
  · obtain ⟨q,aA⟩:=List.mem_iff_getElem?.1 aC
    exact List.mem_of_getElem? (l7 aA g1)
 have Ch:=LQ (CM ui) HU Cg
 obtain ⟨alO,amy,alH,lC,G4,alS,alT,abc,_,alU⟩:=IC qM Ch ins [] [] vM ab (fun i aC=>aC) (fun i aC=>by simp at aC) (by simpa using HU) (fun m hm=>by simp at hm) ji
 rw [kD] at G4
 simp only [o3.ok.injEq] at G4
 obtain ⟨-,adr,abV⟩:=G4
 subst adr abV
 obtain ⟨HC,adq⟩:=RJ (gK ops post) (fun dA wL=>by
  obtain ⟨q,aA⟩:=List.mem_iff_getElem?.1 wL
  have sg:q<post.length:=by rw [←oH (ops:=ops)];exact (List.getElem?_eq_some_iff.1 aA).1
  obtain ⟨_,OC,_⟩:=E3 q _ (List.getElem?_eq_getElem sg)
  have:=l7 (List.getElem?_eq_getElem sg) (Array.getElem?_eq_getElem OC)
  rw [aA] at this;cases this
  exact Ao _ _ (List.getElem_mem sg) (Array.getElem?_eq_getElem OC)) ads
 subst HC
 refine wpIn_region_draw fun t=>?_
 simp only [Region.schedule,cY,Bool.true_or,if_true]
 have hL:∀i o,ops[i]? =some o→lr i o=true:=fun i o h=>by obtain ⟨_,_,ae,_⟩:=lP i o h;exact ae
 have da:∀k,¬(Array.replicate ops.size false).getD k false=true:=by
  intro k
  rw [r4,Array.getElem?_replicate]
  split<;>simp
 obtain ⟨s1,s2,jV⟩:=N4 (ops:=ops) hL ops.size t (Array.replicate ops.size false) (by simp) (Nat.le_trans List.countP_le_length (by simp))
 change wpOpsIn (ch rd) 0 P ops Q (Region.linearise.go .any ops ops.size t (Array.replicate ops.size false) []) a {w with drawn:=w.drawn+1}
 generalize oh:Region.linearise.go .any ops ops.size t (Array.replicate ops.size false) []=vz at s1 s2 jV
 generalize Iv:vz.filter (lk ops)=σ
 have I2:∀k,k ∈ σ↔k ∈ ins:=by
  intro k
  rw [←Iv,List.mem_filter]
  constructor
  · rintro ⟨g1,g2⟩
    exact (Iz k (s2 k g1).1).1 g2
  · intro g
    obtain ⟨q,aA⟩:=List.mem_iff_getElem?.1 g
    have aE:=(E2 q k aA).2.1
    refine ⟨?_,(Iz k aE).2 g⟩
    rcases jV k aE with h | h
    · exact absurd h (da k)
    · exact h
 have OQ:σ.Nodup:=by rw [←Iv];exact s1.filter _
 have H4:σ.Perm ins:=(List.perm_ext_iff_of_nodup OQ HU).2 I2
 have Pk:σ.length=ins.length:=H4.length_eq
 have kC:(pre++(σ++post)).Perm order:=by
  rw [ow]
  exact (H4.append_right post).append_left pre
 have HV:(pre++(σ++post)).Nodup:=kC.nodup_iff.2 HT
 have zf:(pre++(σ++post)).length=ops.size:=by rw [kC.length_eq,ns]
 have Bo:=akn HV
 generalize adm:(List.range ops.size).map (fun k=>(pre++(σ++post)).idxOf k)=jP
 have wN:∀k,k<ops.size→posOf jP k=(pre++(σ++post)).idxOf k:=by
  intro k aE
  rw [←adm]
  unfold posOf
  rw [List.getElem?_map,List.getElem?_range aE]
  rfl
 have Aj:∀i,i<ops.size→i ∈ pre→posOf jP i=posOf aD i∧posOf aD i<cA:=by
  intro i aC hm
  obtain ⟨q,aA⟩:=List.mem_iff_getElem?.1 hm
  obtain ⟨g1,_,g3⟩:=E4 q i aA
  rw [wN i aC,(Bo i q).1 aA,g1]
  exact ⟨rfl,g3⟩
 have Ai:∀i,i<ops.size→i ∈ ins→∃q:Nat,σ[q]? =some i∧posOf jP i=cA+q∧q<ins.length∧cA≤posOf aD i∧posOf aD i<cA+ins.length:=by
  intro i aC hm
  obtain ⟨q,aA⟩:=List.mem_iff_getElem?.1 ((I2 i).2 hm)
  obtain ⟨ej,oy⟩:=List.mem_iff_getElem?.1 hm
  obtain ⟨g1,_,g3⟩:=E2 ej i oy
  have:=(List.getElem?_eq_some_iff.1 aA).1
  have:=(List.getElem?_eq_some_iff.1 oy).1
  exact ⟨q,aA,by rw [wN i aC,(Bo i q).2.1 aA,wO],by omega,by omega,by omega⟩
 have Jq:∀i,i<ops.size→i ∈ post→posOf jP i=posOf aD i∧cA+ins.length≤posOf aD i:=by
  intro i aC hm
  obtain ⟨q,aA⟩:=List.mem_iff_getElem?.1 hm
  obtain ⟨g1,_,_⟩:=E3 q i aA
  rw [wN i aC,(Bo i q).2.2 aA,g1,Pk,wO]
  exact ⟨rfl,by omega⟩
 have cls:∀i,i<ops.size→i ∈ pre∨i ∈ ins∨i ∈ post:=by
  intro i aC
  rcases Th i aC with ⟨q,aA⟩ | ⟨q,aA⟩ | ⟨q,aA⟩
  · exact .inl (List.mem_of_getElem? aA)
  · exact .inr (.inl (List.mem_of_getElem? aA))
  · exact .inr (.inr (List.mem_of_getElem? aA))
 obtain ⟨tJ,amz,Gu,x3,NW,abd,abe,abf,abh,abg⟩:=IC qM Ch σ [] [] vM ab (fun i aC=>(I2 i).1 aC) (fun i aC=>by simp at aC) (by simpa using OQ) (fun m hm=>by simp at hm) ji
 obtain ⟨vZ,adt⟩:=adq x3
 have O4:=Kj _ _ qX (Kj _ _ NW adt)
 rw [←Ae,←Ae] at O4
 obtain ⟨agk,-,-,-⟩:=sQ NW
 rw [oH,Pk] at agk
 obtain ⟨cF,z2,z3,z4⟩:=sQ O4
 rw [oH,zf] at cF
 have Rc:∀k,k<ops.size→posOf jP k<ops.size∧(pre++(σ++post))[posOf jP k]? =some k:=by
  intro k aE
  have hm:k ∈ pre++(σ++post):=kC.mem_iff.2 (List.mem_of_getElem? (Rb k aE).2)
  obtain ⟨q,aA⟩:=List.mem_iff_getElem?.1 hm
  have H6:=w4 HV aA
  rw [wN k aE,H6]
  have:=(List.getElem?_eq_some_iff.1 aA).1
  exact ⟨by omega,aA⟩
 have ah':∀p,p<ops.size→∃i,i<ops.size∧posOf jP i=p:=by
  intro p ah
  have aA:(pre++(σ++post))[p]? =some ((pre++(σ++post))[p]'(by omega)):=List.getElem?_eq_getElem _
  have hm:(pre++(σ++post))[p]'(by omega) ∈ order:=kC.mem_iff.1 (List.getElem_mem _)
  obtain ⟨q,wP⟩:=List.mem_iff_getElem?.1 hm
  have aL:=(xu gp wP).2
  exact ⟨_,aL,by rw [wN _ aL];exact w4 HV aA⟩
 have MK:∀j o,ops[j]? =some o→dT P o=true→j ∈ ins:=by
  intro j o aT k4
  rcases cls j (Array.getElem?_eq_some_iff.1 aT).1 with h | h | h
  · rw [(Jx j o h aT).2.1] at k4;cases k4
  · exact h
  · unfold dT at k4
    rw [(Ao j o h aT).1] at k4
    cases k4
 have IA:∀k ok,k ∈ ins→ops[k]? =some ok→ok.dst=none∧ka ok=true:=by
  intro k ok aE bF
  obtain ⟨o,jc,g1,g2,_⟩:=zH k aE
  rw [bF] at g1;cases g1
  exact ⟨(zG g2).2.1,(CO (P:=P) g2).1⟩
 have VJ:∀st,st=ops.size∨(∃k,k<ops.size∧k ∈ ins∧st=posOf jP k)→∀c,b≠c→(b_ (gR++(tJ++vZ)) x3 st).get c=ab.get c:=by
  rintro st (rfl | ⟨k,aE,gf,rfl⟩) c aI
  · unfold b_
    rw [List.getElem?_eq_none (by omega)]
    exact abe c aI
  · obtain ⟨q,_,g2,g3,_⟩:=Ai k aE gf
    have H7:q<tJ.length:=by omega
    unfold b_
    rw [g2,List.getElem?_append_right (by omega),eg,Nat.add_sub_cancel_left,List.getElem?_append_left H7,List.getElem?_eq_getElem H7]
    exact abh _ (List.getElem_mem H7) c aI
 have C:Cert P au ops (fun _=>call) (gR++(tJ++vZ)) r h e7 x3 (gZ P jP 0 ops.toList) (pre++(σ++post)) jP ops.size ops.size true:=by
  refine ⟨cF,Nat.le_refl _,Nat.le_refl _,Rc,ah',z2,z3,?_,?_,?_,?_,?_,?_,fun h=>absurd h (Nat.lt_irrefl _),fun h=>absurd h (Nat.lt_irrefl _)⟩
  · intro i o aT _
    exact z4 _ o (l7 (Rc i (Array.getElem?_eq_some_iff.1 aT).1).2 aT)
  · intro i o cl
    obtain ⟨cI,f1,f2,f3,_⟩:=lP i o cl
    refine ⟨cI,f1,f2,fun _ k ok bF _=>?_⟩
    obtain ⟨mk,f4,f5⟩:=f3 k ok bF
    have aC:i<ops.size:=(Array.getElem?_eq_some_iff.1 cl).1
    have aE:k<ops.size:=(Array.getElem?_eq_some_iff.1 bF).1
    refine ⟨mk,f4,?_,fun he k4 aL=>?_⟩
    · by_cases gf:k ∈ ins
      · unfold nH
        rw [(IA k ok gf bF).1]
        simp
      · have ag:Nat.blt (posOf jP k) (posOf jP i)=Nat.blt (posOf aD k) (posOf aD i):=by
         rw [Bool.eq_iff_iff,Nat.blt_eq,Nat.blt_eq]
         rcases cls k aE with aI | aI | aI
         · obtain ⟨bH,a2⟩:=Aj k aE aI
           rcases cls i aC with aZ | aZ | aZ
           · obtain ⟨cC,ck⟩:=Aj i aC aZ;omega
           · obtain ⟨q,_,ck,hF,kq,kX⟩:=Ai i aC aZ;omega
           · obtain ⟨cC,ck⟩:=Jq i aC aZ;omega
         · exact absurd aI gf
         · obtain ⟨bH,a2⟩:=Jq k aE aI
           rcases cls i aC with aZ | aZ | aZ
           · obtain ⟨cC,ck⟩:=Aj i aC aZ;omega
           · obtain ⟨q,_,ck,hF,kq,kX⟩:=Ai i aC aZ;omega
           · obtain ⟨cC,ck⟩:=Jq i aC aZ;omega
        rw [ag]
        exact f5
    · have gf:=MK k ok bF k4
      obtain ⟨amJ,_,ck,hF,kq,kX⟩:=Ai k aE gf
      rcases cls i aC with aZ | aZ | aZ
      · obtain ⟨bH,a2⟩:=Aj i aC aZ;omega
      · exact .inr ⟨rfl,(IA i o aZ cl).2,(IA k ok gf bF).2⟩
      · rw [(Ao i o aZ cl).1] at he;cases he
  · have:=CU (P:=P) (aD:=jP) (l:=ops.toList) (i:=0)
    simpa using this
  · intro j o g1 g2
    have:=xf (P:=P) (aD:=jP) (i:=0) (j:=j) (l:=ops.toList) (o:=o) (by simpa using g1) g2
    simpa using this
  · intro st cG
    rcases ss cG with h | ⟨j,o,g1,g2,g3⟩
    · exact .inl (.inl (by simpa using h))
    · exact .inr ⟨j,o,by simpa using g1,g2,by simpa using g3⟩
  · intro j o pJ ai he _
    have bK:j<ops.size:=(Array.getElem?_eq_some_iff.1 pJ).1
    have mw:j ∈ pre:=by
     rcases cls j bK with aZ | aZ | aZ
     · exact aZ
     · obtain ⟨b8,jc,g1,g2,_⟩:=zH j aZ
       rw [pJ] at g1;cases g1
       rw [(CO (P:=P) g2).2.1] at he;cases he
     · rw [(Ao j o aZ pJ).2] at ai;cases ai
    obtain ⟨rp,Tm,la⟩:=(Jx j o mw pJ).2.2 ai he
    obtain ⟨q,aA⟩:=List.mem_iff_getElem?.1 mw
    obtain ⟨bH,_,a3⟩:=E4 q j aA
    obtain ⟨e,c,off,aa,ek,eJ,y3,y4,KH⟩:=Qj eD q j o rp Tm aA pJ la
    have acz:(gR++(tJ++vZ))[posOf jP j]? =some e:=by
     rw [(Aj j bK mw).1,bH,List.getElem?_append_left (by omega)]
     rw [Nat.zero_add,nm,List.getElem?_append_left (by omega)] at ek
     exact ek
    refine ⟨e,acz,fun st cG _=>⟨call,_,⟨cN,dq⟩,aao la y4 KH eJ _ (VJ st ?_ c fun h=>y3 h.symm)⟩⟩
    rcases ss cG with h | ⟨bt,b8,g1,g2,g3⟩
    · exact .inl (by simpa using h)
    · have Cv:ops[bt]? =some b8:=by simpa using g1
      exact .inr ⟨bt,(Array.getElem?_eq_some_iff.1 Cv).1,MK bt b8 Cv g2,by simpa using g3⟩
 have kx:∀(av:Env) (bm:Act),E.le av→bm.defers=a.defers→∀(bw:bA),T.get .bad eF bw=T.get .bad eF r→ko av (T.get .bad eF bw) bm.defers:=fun av bm he aZ bw qW=>by rw [qW,aZ];exact k.defers.mono he
 have Ck:T.get .bad eF e7=T.get .bad eF r:=by
  have:=C.GK ops.size (Nat.le_refl _)
  have HW:(gR++(tJ++vZ))[ops.size]? =none:=List.getElem?_eq_none (by omega)
  unfold dX at this
  rw [HW] at this
  exact this
 have jk:Holds aw aw (gR++(tJ++vZ)) x3 jP (jd ops (gR++(tJ++vZ)) x3 jP (Array.replicate ops.size false) 0):=
  ⟨rfl,fun _ _=>rfl,fun k aE=>(by obtain ⟨_,_,_,_,bb⟩:=aE;omega),fun k bt aE=>(by obtain ⟨_,_,_,_,bb⟩:=aE;omega)⟩
 obtain ⟨fA,dR,g1,g2,g3,g4,g5,g6⟩:=C.advance ops.size 0 (by omega) (fun k o _ _ _=>da k) aw jk (E:=E) (w:={w with drawn:=w.drawn}) (by rw [C.bb];exact s.same rfl rfl rfl rfl)
 rw [←oh]
 refine agU (aw:=aw) bG (fun _=>cN) (fun _=>dq) C (fQ:=E) (D:=a.defers) (vz:=vz) (fun av bm ao an az aN bM=>?_) (fun i k aC aE aL bm bP ab5=>?_) ops.size t _ [] a _ (by rw [oh];rfl) (fun k _=>⟨fun h=>absurd h (da k),fun h=>by simp at h⟩) (Nat.le_trans List.countP_le_length (by simp)) ?_
 · refine ah av bm ao an ⟨az,kx av bm an aN e7 Ck⟩ ?_
   have jm:=dz az A.m
   rw [qS] at jm
   simp only [Rel] at jm
   obtain ⟨p,abU,_⟩:=jm
   rw [abc,←abf]
   refine bM.forget abd abU ?_
   rw [List.nil_append,Qs (CM ui),Qr (fun i m h=>Nn h) abg]
   exact H4.symm.map _
 · have mv:i<ops.size:=by
    unfold lk at aC
    cases aT:ops[i]? with
    | none=>rw [aT] at aC;cases aC
    | some o=>exact (Array.getElem?_eq_some_iff.1 aT).1
   have sd:k<ops.size:=by
    unfold lk at aE
    cases aT:ops[k]? with
    | none=>rw [aT] at aE;cases aE
    | some o=>exact (Array.getElem?_eq_some_iff.1 aT).1
   have gf:=(Iz k sd).1 aE
   have Pj:σ=bm.filter (lk ops)++i::bP.filter (lk ops):=by rw [←Iv,ab5,List.filter_append,List.filter_cons_of_pos aC]
   have iR:posOf jP i=cA + (bm.filter (lk ops)).length:=by
    rw [wN i mv,(Bo i (bm.filter (lk ops)).length).2.1 (by rw [Pj,List.getElem?_append_right (Nat.le_refl _),Nat.sub_self];rfl),wO]
   obtain ⟨q,aA,Cx,_⟩:=Ai k sd gf
   have sg:q < (bm.filter (lk ops)).length:=by omega
   rw [Pj,List.getElem?_append_left sg] at aA
   exact (List.mem_filter.1 (List.mem_of_getElem? aA)).1
 · refine ⟨by simp,k.size,rfl,fun bt aE=>absurd aE (da bt),fun bt o e aE=>absurd aE (da bt),E,fA,dR,Env.le.refl E,g1,g3,fun bt o ab ae=>⟨fun h=>absurd h (da bt),fun h=>by have:=g4 bt o ab ae (Nat.zero_le _);omega⟩,
    fun bt o _ _ h=>absurd h (da bt),g5,?_,fun t aF=>.inr ⟨fun bt o aE=>absurd aE (da bt),k.ar t aF⟩⟩
   exact g6.same rfl rfl rfl rfl
theorem aar {rd:Option Nat} {aw:Fr} {E:Env} {h:af} {w:World} {id:Nat} (cY:P.follows .mixedOrders=true) (bG:ez P) (cN:gk P call) (dq:gu P call) {r:bA} {a:Act}
 {Q:Exit→Act→World→Prop} (ah:mm aw E au (Q .normal) Q ((GH P au ops).run call r h)) (k:e8 E au r a) (s:a' aw E h w):(Code.region id ops true).wpIn (ch rd) 0 P Q a w:=by
 unfold GH at ah
 generalize Ag P ops=order at ah
 generalize Ds order 0 ops.toList=aD at ah
 unfold Nf at ah
 cases ay:(kN ops.size order aD&&vT P ops aD) with
 | false=>
   rw [ay] at ah
   simp only [cond_false] at ah
   cases im:(kN ops.size order aD&&AB P ops order aD) with
   | false=>
     rw [im] at ah
     simp only [cond_false] at ah
     cases Hu:kN ops.size order aD with
     | false=>rw [Hu] at ah;exact ah.elim
     | true=>
       rw [Hu] at ah
       simp only [cond_true] at ah
       exact agW cY bG cN dq Hu ah k s
   | true=>
     rw [im] at ah
     simp only [cond_true] at ah
     simp only [Bool.and_eq_true] at im
     exact aas cY bG cN dq im.1 im.2 ah k s
 | true=>
   rw [ay] at ah
   simp only [cond_true] at ah
   simp only [Bool.and_eq_true] at ay
   obtain ⟨gp,gH⟩:=ay
   unfold kN at gp
   simp only [Bool.and_eq_true,Nat.beq_eq] at gp
   obtain ⟨ns,wL,zi,zj⟩:=gp
   have hz:∀k,k<ops.size→posOf aD k<ops.size∧order[posOf aD k]? =some k:=by
    intro k aE
    have aH:aD[k]? =some (posOf aD k):=by
     unfold posOf
     rw [List.getElem?_eq_getElem (by omega)]
     rfl
    have:=sG zi aH
    rw [Nat.zero_add] at this
    exact ⟨by have:=(List.getElem?_eq_some_iff.1 this).1;omega,this⟩
   have kh:∀p,p<ops.size→∃i,i<ops.size∧posOf aD i=p:=by
    intro p ah
    have aH:order[p]? =some (order[p]'(by omega)):=List.getElem?_eq_getElem (by omega)
    have:=sG zj aH
    rw [Nat.zero_add] at this
    refine ⟨order[p]'(by omega),by have:=(List.getElem?_eq_some_iff.1 this).1;omega,?_⟩
    unfold posOf
    rw [this]
    rfl
   have Kh:∀j o,ops[j]? =some o→dT P o=true→posOf aD j ∈ gZ P aD 0 ops.toList:=fun j o ab ae=>by simpa using xf (aD:=aD) (i:=0) (j:=j) (l:=ops.toList) (by simpa using ab) ae
   have ajZ:ops.size ∈ gZ P aD 0 ops.toList:=by simpa using CU (P:=P) (aD:=aD) (l:=ops.toList) (i:=0)
   have SE:∀N M,∀s ∈ gZ P aD 0 ops.toList,(s=ops.size∨(s=N∧M=N))∨∃k o,ops[k]? =some o∧dT P o=true∧s=posOf aD k:=fun N M s aQ=>by
    rcases ss aQ with h | ⟨j,o,ab,ae,aG⟩
    · exact .inl (.inl (by simpa using h))
    · exact .inr ⟨j,o,by simpa using ab,ae,by simpa using aG⟩
   have Oy:∀i o,ops[i]? =some o→∃cI,(ev [] ops.toList)[i]? =some cI∧lr i o=true∧(posOf aD i<ops.size→
    ∀k ok,ops[k]? =some ok→posOf aD k<ops.size→∃mk,(ev [] ops.toList)[k]? =some mk∧nH i cI (b5 ops o) o.dst k mk ok (Nat.blt (posOf aD k) (posOf aD i))=true∧(eH P o.op=true→dT P ok=true→posOf aD k<posOf aD i→fw cI k=true∨(false=true∧ka o=true∧ka ok=true))):=by
    intro i o aC
    obtain ⟨cI,g1,g2,g3⟩:=Nd gH i o aC
    exact ⟨cI,g1,g2,fun _ k ok aE _=>by
     obtain ⟨mk,ek,eJ,y3⟩:=g3 k ok aE
     exact ⟨mk,ek,eJ,fun a b c=>.inl (y3 a b c)⟩⟩
   have main:∀(q:AN),
    (∀es nn N,es.length=N→N≤ops.size→(∀i o,ops[i]? =some o→posOf aD i<N→∃e,es[posOf aD i]? =some e∧(cx P au ops o).run call e.r e.h=.val e.v (b_ es nn (posOf aD i+1)))→
      (N<ops.size→∃i0 hy,ops[i0]? =some hy∧posOf aD i0=N∧dT P hy=true)→q.run call es nn=true→∀j o,ops[j]? =some o→looks o.op=true→eH P o.op=false→posOf aD j<N→∃e,es[posOf aD j]? =some e∧∀s ∈ gZ P aD 0 ops.toList,
      q8 P (ev [] ops.toList) ops.toList aD j (((ev [] ops.toList)[j]?).getD 0) s=true→∃aa,(cx P au ops o).run call e.r (b_ es nn s)=.val e.v aa)→
    mm aw E au (Q .normal) Q (BH ops order aD (ff P au ops (gK ops order)) q call r h)→(Code.region id ops true).wpIn (ch rd) 0 P Q a w:=by
    intro q r' cT
    unfold BH at cT
    cases cG:(ff P au ops (gK ops order)).run call r h with
    | fail=>rw [cG] at cT;exact cT.elim
    | ok es e7 bf=>
      rw [cG] at cT
      simp only at cT
      cases aA:q.run call es bf with
      | false=>rw [aA] at cT;exact cT.elim
      | true=>
        rw [aA] at cT
        simp only [cond_true] at cT
        obtain ⟨an,az,aN,bM⟩:=sQ cG
        have hlen:es.length=ops.size:=by rw [an,oH,ns]
        have hd:∀i o,ops[i]? =some o→posOf aD i<ops.size→∃e,es[posOf aD i]? =some e∧(cx P au ops o).run call e.r e.h=.val e.v (b_ es bf (posOf aD i+1))∧dX es e7 (posOf aD i+1)=(fj o.dst).run e.r e.v:=
         fun i o aT _=>bM _ o (l7 (hz i (Array.getElem?_eq_some_iff.1 aT).1).2 aT)
        have C:Cert P au ops (fun _=>call) es r h e7 bf (gZ P aD 0 ops.toList) order aD ops.size ops.size false:=
         ⟨hlen,Nat.le_refl _,Nat.le_refl _,hz,kh,az,aN,hd,Oy,ajZ,Kh,SE _ _,
           fun j o ab ae aG ba=>by
            obtain ⟨e,g1,g2⟩:=r' es bf _ hlen (Nat.le_refl _) (fun i o aT aC=>by obtain ⟨e,cF,z2,_⟩:=hd i o aT aC;exact ⟨e,cF,z2⟩) (fun h=>by omega) aA j o ab ae aG ba
            exact ⟨e,g1,fun s aQ hm=>by obtain ⟨aa,g3⟩:=g2 s aQ hm;exact ⟨_,aa,⟨cN,dq⟩,g3⟩⟩,
           fun h=>absurd h (Nat.lt_irrefl _),fun h=>absurd h (Nat.lt_irrefl _)⟩
        exact GJ cY bG cN dq k s C (fun _=>cT) (fun _ _ _ _ _ _ _ h=>absurd h (Nat.lt_irrefl _)) (fun h=>absurd h (Nat.lt_irrefl _))
    | cH es e7 bf v aa=>
      rw [cG] at cT
      simp only at cT
      cases aA:(Jr ops order aD es.length&&q.run call es bf) with
      | false=>rw [aA] at cT;exact cT.elim
      | true=>
        rw [aA] at cT
        simp only [cond_true] at cT
        simp only [Bool.and_eq_true] at aA
        obtain ⟨uk,aA⟩:=aA
        obtain ⟨az,aN,bM,hy,dL,eP,hi⟩:=SF cG
        have aL:es.length<ops.size:=by
         have:=(List.getElem?_eq_some_iff.1 dL).1
         rw [oH,ns] at this
         exact this
        obtain ⟨i0,ub,iR⟩:=kh es.length aL
        have cl:ops[i0]? =some ops[i0]:=Array.getElem?_eq_getElem ub
        have ow:=(hz i0 ub).2
        rw [iR] at ow
        have adf:hy=ops[i0]:=by
         have:=l7 ow cl
         rw [dL] at this
         cases this
         rfl
        subst adf
        unfold Jr at uk
        rw [ow] at uk
        simp only at uk
        obtain ⟨m0,OH,_⟩:=oY uk i0 ops[i0] (by simp)
        have Pg:∀k ok,ops[k]? =some ok→∃mk,(ev [] ops.toList)[k]? =some mk∧(es.length<posOf aD k→fw mk i0=true)∧(gg ok=true→posOf aD k<es.length→fw m0 k=true):=by
         intro k ok aE
         obtain ⟨mk,cF,z2⟩:=oY uk k ok (by simpa using aE)
         simp only [Nat.zero_add,Bool.and_eq_true] at z2
         refine ⟨mk,cF,fun aH=>?_,fun bq ai=>?_⟩
         · have:=z2.1
           rw [show Nat.blt es.length (posOf aD k)=true from by rw [Nat.blt_eq];exact aH] at this
           exact this
         · have:=z2.2
           rw [bq,show Nat.blt (posOf aD k) es.length=true from by rw [Nat.blt_eq];exact ai,OH] at this
           exact this
        have wz:dT P ops[i0]=true:=by
         obtain ⟨bu,bI⟩:=Qv (P:=P) eP
         unfold dT;rw [bu,bI];rfl
        have hd:∀i o,ops[i]? =some o→posOf aD i<es.length→∃e,es[posOf aD i]? =some e∧(cx P au ops o).run call e.r e.h=.val e.v (b_ es bf (posOf aD i+1))∧dX es e7 (posOf aD i+1)=(fj o.dst).run e.r e.v:=
         fun i o aT ai=>bM _ o ai (l7 (hz i (Array.getElem?_eq_some_iff.1 aT).1).2 aT)
        have C:Cert P au ops (fun _=>call) es r h e7 bf (gZ P aD 0 ops.toList) order aD es.length ops.size false:=
         ⟨rfl,Nat.le_of_lt aL,Nat.le_of_lt aL,hz,kh,az,aN,hd,Oy,by rw [←iR];exact Kh i0 _ cl wz,Kh,SE _ _,
           fun j o ab ae aG ba=>by
            obtain ⟨e,g1,g2⟩:=r' es bf _ rfl (Nat.le_of_lt aL) (fun i o aT aC=>by obtain ⟨e,cF,z2,_⟩:=hd i o aT aC;exact ⟨e,cF,z2⟩) (fun _=>⟨i0,_,cl,iR,wz⟩) aA j o ab ae aG ba
            exact ⟨e,g1,fun s aQ hm=>by obtain ⟨aa,g3⟩:=g2 s aQ hm;exact ⟨_,aa,⟨cN,dq⟩,g3⟩⟩,
           fun h=>absurd h (Nat.lt_irrefl _),fun _ _=>⟨i0,_,m0,cl,iR,eP,OH,fun k ok mk aE aH HQ=>by
            obtain ⟨mk',cF,z2,_⟩:=Pg k ok aE
            rw [HQ] at cF;cases cF
            exact z2 aH,fun k ok aE bq ai=>by
            obtain ⟨mk',cF,_,z3⟩:=Pg k ok aE
            exact z3 bq ai,v,aa,hi⟩⟩
        refine GJ cY bG cN dq k s C (fun h=>absurd h (by omega)) (fun av bm ao x v1 ab g1 _ _ g3 g4 g5 g6=>?_) (fun h=>absurd h (Nat.lt_irrefl _))
        obtain ⟨i1,dC,cF,z2,z3⟩:=g3
        have:i1=i0:=C.uY (Array.getElem?_eq_some_iff.1 cF).1 ub (by rw [z2,iR])
        subst this
        rw [cl] at cF;cases cF
        rw [hi] at z3;cases z3
        exact cT av bm ao x g1 g4 g5 g6
   cases ai:qv P ops.toList with
   | false=>
     rw [ai] at ah
     have none:∀(l:List Oper),qv P l=false→∀(j:Nat) (o:Oper),l[j]? =some o→eH P o.op=false:=by
      intro l
      induction l with
      | nil=>intro _ j o h;simp at h
      | cons x l bk=>
        intro h j o aT
        simp only [qv,Bool.or_eq_false_iff] at h
        cases j with
        | zero=>simp only [List.getElem?_cons_zero,Option.some.injEq] at aT;subst aT;exact h.1
        | succ j=>exact bk h.2 j o (by simpa using aT)
     refine main _ (fun es nn N hlen hle hd O7 _ j o aT eD aA za=>?_) ah
     have Hc:N=ops.size:=by
      rcases Nat.lt_or_ge N ops.size with aL | iO
      · obtain ⟨i0,hy,cF,z2,z3⟩:=O7 aL
        have:=none _ ai i0 hy (by simpa using cF)
        unfold dT at z3
        rw [this] at z3;cases z3
      · omega
     obtain ⟨e,bS,b0⟩:=hd j o aT za
     refine ⟨e,bS,fun s aQ _=>?_⟩
     have hc:s=ops.size:=by
      rcases ss aQ with h | ⟨CQ,b8,ab,ae,aG⟩
      · simpa using h
      · have:=none _ ai CQ b8 ab
        unfold dT at ae
        rw [this] at ae
        cases ae
     have flat:∀d,d≤ops.size→b_ es nn d=b_ es nn 0:=by
      intro d
      induction d with
      | zero=>intro _;rfl
      | succ d bk=>
        intro aZ
        obtain ⟨i,y',mv⟩:=kh d (by omega)
        have cl:ops[i]? =some ops[i]:=Array.getElem?_eq_getElem y'
        obtain ⟨aaw,b3,b4⟩:=hd i ops[i] cl (by omega)
        rw [mv] at b3 b4
        have dI:eH P ops[i].op=false:=none _ ai i _ (by simp)
        rw [(tD dI b4).1,←bk (by omega)]
        simp [b_,b3]
     have:e.h=b_ es nn s:=by rw [hc,flat ops.size (Nat.le_refl _),←flat (posOf aD j) (by omega)];simp [b_,bS]
     rw [←this]
     exact ⟨_,b0⟩
   | true=>
     rw [ai] at ah
     refine main _ (fun es nn N hlen hle hd O7 H6 j o aT eD aA za=>?_) ah
     obtain ⟨e,bS,_⟩:=hd j o aT za
     have:=E1 H6 j o (by simpa using aT) eD aA e (by simpa using bS)
     exact ⟨e,bS,by simpa using this⟩
end
end Go.Proofs.YthemdhlheglhoaaGreatDoor.aX
namespace Go.Proofs.YthemdhlheglhoaaGreatDoor.aX
variable [Lay]
open Go Go.RowKit
def toExit:de→Exit
 | .normal=>.normal
 | .exit id=>.exit id
 | .ret=>.ret
def Ub (C:Ctx):Prop:=
 ∀f p args h v aa,C.JC f=some p→p.run args h=.val v aa→(∃fn,C.P.funcs[f]? =some fn∧fn.body.isSome=true)∧∀(aw:Fr) E w xs,bc E args xs→a' aw E h w→
  Calls C.P f xs.toArray w fun e ao=>∃av x,e=.returned x∧E.le av∧Rel av v x∧a' aw av aa ao
def TJ (C:Ctx):Prop:=
 ∀f p args h v aa,C.ext f=some p→p.run args h=.val v aa→∀(aw:Fr) E w xs,bc E args xs→a' aw E h w→
  ∃av x ao,(callFunc f xs.toArray).run C.P w=.ok (.value x) ao∧E.le av∧Rel av v x∧a' aw av aa ao
def ql (C:Ctx):Prop:=Ub C∧TJ C
theorem pB {P:Program} {rd:Option Nat} (m:Machine):m.fenced P (ch rd):=fenced_wide P m
def D4 (rd:Option Nat) (P:Program) (c:Code) (Q:Exit→Act→World→Prop) (a:Act) (w:World):Prop:=
 match c with
 | .loop x=>∀(b:Frame) (k:List Item) (cs:List Frame),b.roundOf=rd→∃e bm ao,Q e bm ao∧ArrivesIn (Machine.fenced P (ch rd)) P (lone (b.atR a (.code x::.inLoop x::k)) cs w) b k cs e bm ao
 | c=>c.wpIn (ch rd) 0 P Q a w
theorem D4.wp {rd:Option Nat} {P:Program} {c:Code} {Q:Exit→Act→World→Prop} {a:Act} {w:World} (h:D4 rd P c Q a w):c.wpIn (ch rd) 0 P Q a w:=by
 cases c with
 | loop x=>
   intro b k cs kE _ _
   obtain ⟨e,bm,ao,q,r⟩:=h b k cs kE
   exact ⟨e,bm,ao,q,.of_steps (.one (pB _) stepR_loop) r⟩
 | _=>exact h
def vv (aw:Fr) (E:Env) (au:Nat) (Q:Exit→Act→World→Prop):kU→Prop
 | .ok e r h=>∀av bm ao,E.le av→e8 av au r bm→a' aw av h ao→Q (toExit e) bm ao
 | .cH v r h=>∀av bm ao x,E.le av→e8 av au r bm→Rel av v x→a' aw av h ao→Q (.panic (oJ x)) bm ao
 | .fail=>False
theorem vv.up {aw:Fr} {E av:Env} (h:E.le av) {au:Nat} {Q:Exit→Act→World→Prop} {x:kU} (k:vv aw E au Q x):vv aw av au Q x:=by
 cases x with
 | ok e r bf=>exact fun cn a w ae=>k cn a w (h.trans ae)
 | cH v r bf=>exact fun cn a w x ae=>k cn a w x (h.trans ae)
 | fail=>exact k
def KW (P:Program) (au:Nat) (c:Code) (run:bA→af→kU):Prop:=
 ∀(rd:Option Nat) (aw:Fr) r h,(rd=none∨noMark c=true)→∀E a w,e8 E au r a→a' aw E h w→∀Q:Exit→Act→World→Prop,vv aw E au Q (run r h)→D4 rd P c Q a w
def rF (P:Program) (ex:hk):Prop:=∀au c,KW P au c (ex au c)
def u1 (tmps:Array Value):ResultVar→Sem Value
 | .tmp t=>pure (tmps.getD t undef)
 | .cell b t=>do loadVar t (←asAddr (tmps.getD b undef))
theorem JV {P:Program} {aw:Fr} {E:Env} {au:Nat} {r:bA} {h:af} {a:Act} {w:World} (k:RegRel0 E au r a) (s:a' aw E h w):∀{l:List ResultVar} {ad:List V},(jU P au l).run r h=some ad→
 ∃xs,bc E ad xs∧(l.mapM (u1 a.tmps)).run P w=.ok xs w
 | [],ad,he=>by
   simp only [jU,Option.some.injEq] at he
   subst he
   exact ⟨[],rfl,rfl⟩
 | .tmp t::l,ad,he=>by
   simp only [jU] at he
   cases aI:(Nat.ble t top&&Nat.blt t au) with
   | false=>rw [aI] at he;cases he
   | true=>
     rw [aI] at he
     simp only [cond_true] at he
     simp only [Bool.and_eq_true,Nat.ble_eq] at aI
     cases aJ:(jU P au l).run r h with
     | none=>rw [aJ] at he;cases he
     | some us=>
       rw [aJ] at he
       simp only [Option.some.injEq] at he
       subst he
       obtain ⟨xs,ab,ae⟩:=JV k s aJ
       refine ⟨_::xs,by simp only [bc];exact ⟨_,_,rfl,k.ar t aI.1,ab⟩,?_⟩
       rw [List.mapM_cons,Sem.run_bind]
       simp only [u1,Sem.run_pure,Result.andThen_ok,Sem.run_bind,ae]
 | .cell b t::l,ad,he=>by
   simp only [jU] at he
   cases aI:(Nat.ble b top&&Nat.blt b au) with
   | false=>rw [aI] at he;cases he
   | true=>
     rw [aI] at he
     simp only [cond_true] at he
     simp only [Bool.and_eq_true,Nat.ble_eq] at aI
     cases bs:(oG P t).run h (T.get .bad (al b) r) with
     | none=>rw [bs] at he;cases he
     | some v=>
       rw [bs] at he
       simp only at he
       cases aJ:(jU P au l).run r h with
       | none=>rw [aJ] at he;cases he
       | some us=>
         rw [aJ] at he
         simp only [Option.some.injEq] at he
         subst he
         obtain ⟨xs,ab,ae⟩:=JV k s aJ
         obtain ⟨Y,_,cM,A,lR,e'⟩:=Qi (P:=P) s (k.ar b aI.1) bs
         refine ⟨Y::xs,by simp only [bc];exact ⟨_,_,rfl,cM,ab⟩,?_⟩
         rw [List.mapM_cons,Sem.run_bind]
         simp only [u1,lR,asAddr,Sem.run_bind,Sem.run_pure,Result.andThen_ok,e',ae]
theorem LV:∀(args:List V) (i:Nat) (t:bA) (j:Nat),i+args.length≤top+1→j≤top→
 T.get .bad (al j) (lK i args t)=if i≤j∧j<i+args.length then (args[j-i]?).getD .bad else T.get .bad (al j) t
 | [],i,t,j,_,_=>by
   have:¬(i≤j∧j<i):=by omega
   simp [lK,this]
 | v::ad,i,t,j,h,bK=>by
   simp only [List.length_cons] at h ⊢
   rw [lK,LV ad _ _ _ (by omega) bK]
   by_cases ab:i+1≤j∧j<i+1+ad.length
   · rw [if_pos ab,if_pos (by omega)]
     have:j-i=(j - (i+1))+1:=by omega
     rw [this,List.getElem?_cons_succ]
   · rw [if_neg ab,T.hr]
     by_cases ae:j=i
     · subst ae;rw [if_pos rfl,if_pos (by omega)];simp
     · rw [if_neg (fun e=>ae (dW e).symm),if_neg (by omega)]
theorem ahM {E:Env} {ad:List V} {xs:List Value} (h:bc E ad xs) (fn:Func) (a:Act) (P:Program) (w:World)
 (aJ:(fn.results.toList.mapM (u1 a.tmps)).run P w=.ok xs w):∃x,(results fn a.tmps).run P w=.ok x w∧Rel E (oneOf ad) x:=by
 have lX:(fn.results.mapM (u1 a.tmps)).run P w=.ok xs.toArray w:=by
  rw [Array.mapM_eq_mapM_toList,Sem.run_map,aJ]
  rfl
 have Hn:results fn a.tmps=(do
  let ad ←fn.results.mapM (u1 a.tmps)
  pure (if h:ad.size=1 then ad[0] else .tuple ad)):=by
  unfold results
  have:(fun x=>match x with
   | ResultVar.tmp t=>(pure (a.tmps.getD t undef):Sem Value)
   | ResultVar.cell b t=>do loadVar t (←asAddr (a.tmps.getD b undef)))=u1 a.tmps:=by
   funext x
   cases x<;>rfl
  rw [←this]
  rfl
 have wQ:(results fn a.tmps).run P w=.ok (if h:xs.toArray.size=1 then xs.toArray[0] else .tuple xs.toArray) w:=by
  rw [Hn,Sem.run_bind,lX]
  rfl
 refine ⟨_,wQ,?_⟩
 match ad,h with
 | [],h=>
   simp only [bc] at h
   subst h
   simp only [oneOf,Rel]
   exact ⟨#[],rfl,rfl⟩
 | [v],h=>
   simp only [bc] at h
   obtain ⟨y,cJ,rfl,a_,rfl⟩:=h
   simpa [oneOf] using a_
 | v::u::ad,h=>
   have ai:=h.length
   have dI:¬xs.toArray.size=1:=by simp at ai ⊢;omega
   rw [dif_neg dI]
   simp only [oneOf,Rel]
   exact ⟨_,rfl,by simpa using h⟩
section
variable {C:Ctx}
theorem LU:∀(args:List V) (i:Nat) (t:bA),i+args.length≤top+1→T.get .bad eF (lK i args t)=T.get .bad eF t
 | [],_,_,_=>rfl
 | v::ad,i,t,h=>by
   simp only [List.length_cons] at h
   simp only [lK]
   rw [LU ad (i+1) _ (by omega),T.hr,if_neg (uW (by omega))]
theorem Nq {E:Env} {au:Nat} {args:List V} {xs:List Value} (ai:bc E args xs) (kv:args.length≤au) (gy:au≤top):
 e8 E au (lK 0 args .e) {tmps:=xs.toArray++Array.replicate (au-xs.toArray.size) undef,defers:=[]}:=by
 have hlen:=ai.length
 refine ⟨⟨by simp;omega,fun t aF=>?_⟩,?_⟩
 · rw [LV _ _ _ _ (by omega) aF]
   by_cases aL:t<args.length
   · rw [if_pos (by omega),Nat.sub_zero,List.getElem?_eq_getElem aL]
     obtain ⟨y,a_,cM⟩:=ai.get t args[t] (List.getElem?_eq_getElem aL)
     simp only [Option.getD_some]
     have:(xs.toArray++Array.replicate (au-xs.toArray.size) undef).getD t undef=y:=by
      rw [Array.getD_eq_getD_getElem?,Array.getElem?_append_left (by simp;omega)]
      simp [a_]
     rw [this];exact cM
   · rw [if_neg (by omega)]
     simp [Rel]
 · rw [LU _ _ _ (by omega)]
   simp [ko]
def j4 (E:Env) (u:Option V) (m:FrameMode):Prop:=
 match u with
 | none=>m=.returning
 | some v=>∃x,Rel E v x∧m=.panicking (oJ x)
theorem j4.mono {E av:Env} (h:E.le av) {u:Option V} {m:FrameMode} (k:j4 E u m):j4 av u m:=by
 cases u with
 | none=>exact k
 | some v=>obtain ⟨x,ab,ae⟩:=k;exact ⟨x,Rel.mono h _ _ ab,ae⟩
theorem j4.settle {E:Env} {u:Option V} {m:FrameMode} (k:j4 E u m):settle m=m:=by
 cases u with
 | none=>simp only [j4] at k;subst k;rfl
 | some v=>obtain ⟨x,ab,rfl⟩:=k;rfl
theorem j4.run {E:Env} {u:Option V} {m:FrameMode} (k:j4 E u m):m≠.run:=by
 cases u with
 | none=>simp only [j4] at k;subst k;simp
 | some v=>obtain ⟨x,ab,rfl⟩:=k;simp
def AT (P:Program) (jz:td):Prop:=
 ∀f args u h gL aa,jz f args u h=.go gL aa→(∃fn,P.funcs[f]? =some fn∧fn.body.isSome=true)∧
  ∀(aw:Fr) E w xs m,bc E args xs→j4 E u m→a' aw E h w→CallsDIn (ch none) 0 P f xs.toArray m w fun e cj ao=>∃av x,e=.returned x∧E.le av∧j4 av gL (settle cj)∧a' aw av aa ao
theorem a'.gone {aw:Fr} {E:Env} {h:af} {w ao:World} (s:a' aw E h w) {b:aP} {p:ih} (fi:(h.get b).own=true) (ah:E b=some p) (c2:aw.w.heap.size≤p.aW)
 (aL:w.heap.size≤ao.heap.size) (lZ:∀j,j≠p.aW→ao.heap[j]? =w.heap[j]?) (nt:ao.os=w.os) (aF:ao.tape=w.tape) (aT:ao.output=w.output):a' aw E (h.set b .dead) ao:=
 s.set fi ah c2 aL lZ nt aF aT (fun _ _ _ e=>by cases e) trivial
theorem IL {P:Program} {jz:td} (bG:ez P) (kx:AT P jz) {aw:Fr} {fn:Func} {tmps:Array Value} {R:Ending→World→Prop}:∀(ad:List V) (ds:List Deferred) (E:Env) (u:Option V) (h:af) (w:World) (m:FrameMode) (gL:Option V) (aa:af),
 l3 jz ad u h=.go gL aa→mf E ad ds→j4 E u m→a' aw E h w→(∀av cj ao,E.le av→j4 av gL cj→a' aw av aa ao→LeavesInM (ch none) 0 P fn tmps R [] cj ao)→LeavesInM (ch none) 0 P fn tmps R ds m w
 | [],ds,E,u,h,w,m,gL,aa,he,aZ,hu,s,cM=>by
   simp only [l3,rJ.go.injEq] at he
   obtain ⟨rfl,rfl⟩:=he
   simp only [mf] at aZ
   subst aZ
   exact cM E m w (Env.le.refl E) hu s
 | v::ad,ds,E,u,h,w,m,gL,aa,he,aZ,hu,s,cM=>by
   obtain ⟨d,oa,rfl,tV,tW⟩:=aZ
   cases v with
   | func f args=>
     simp only [l3] at he
     cases aI:jz f args u h with
     | fail=>rw [aI] at he;cases he
     | go oT ab=>
       rw [aI] at he
       simp only at he
       obtain ⟨ay,cap,aF,ai⟩:=tV
       obtain ⟨⟨aa7,jj,ag⟩,cN⟩:=kx _ _ _ _ _ _ aI
       refine ⟨hu.run,.inr ⟨fun h=>by simp at h,_,cap,f,d.args++cap,aF,?_,fun _ _=>trivial,?_⟩⟩
       · rw [aF]
         simp only [invoke]
         exact sN bG jj ag _ w
       · have e:d.args++cap=(d.args.toList++cap.toList).toArray:=by apply Array.ext';simp
         rw [e]
         refine CallsDIn.mono (cN aw E w _ m ai hu s) fun e m1 b3 aA=>?_
         obtain ⟨fl,x,rfl,an,az,aN⟩:=aA
         exact IL bG kx ad oa fl oT ab b3 (settle m1) gL aa he (tW.mono an) az aN fun cn m2 b4 bS b0 cB=>cM cn m2 b4 (an.trans bS) b0 cB
   | ptr b off=>
     simp only [l3] at he
     cases aH:h.get b<;>rw [aH] at he<;>simp only at he<;>try (cases he;done)
     obtain ⟨p,ah,acq⟩:=tV
     have ag:=s.at ah
     rw [aH] at ag
     obtain ⟨p',fF,c2,bf⟩:=ag
     rw [ah] at fF;cases fF
     have kB:=(Array.getElem?_eq_some_iff.1 bf).1
     let b3:World:={w with heap:=w.heap.setIfInBounds p.aW (.deferred none)}
     have adG:(Instr.takeDeferred p.aW).run P w=.ok [] b3:=by
      have eN:(getObj p.aW).run P w=.ok (.deferred (some [])) w:=by simp only [getObj,Sem.run,bf]
      have qZ:(setObj p.aW (.deferred none)).run P w=.ok () b3:=by simp only [setObj,Sem.run,bf];rfl
      simp only [Instr.takeDeferred,Sem.run_bind,eN,Result.andThen_ok,qZ,Sem.run_pure]
     have s1:a' aw E (h.set b .dead) b3:=s.gone (by rw [aH];rfl) ah c2 (by simp [b3]) (fun j bK=>by simp only [b3,Array.getElem?_setIfInBounds];rw [if_neg (fun e=>bK e.symm)]) rfl rfl rfl
     refine ⟨hu.run,.inl ⟨p.aW,b3,by rw [acq],adG,?_⟩⟩
     exact IL bG kx ad oa E u _ b3 m gL aa he tW hu s1 cM
   | _=>simp [l3] at he
theorem J0 {P:Program} {aw:Fr} {E:Env} {fn:Func} {r:bA} {h:af} {a:Act} {w:World} (k:RegRel0 E fn.ntmps r a) (s:a' aw E h w) {ad:List V} (bs:(jU P fn.ntmps fn.results.toList).run r h=some ad):
 ∃x,(results fn a.tmps).run P w=.ok x w∧Rel E (oneOf ad) x:=by
 obtain ⟨cJ,bS,b0⟩:=JV (P:=P) k s bs
 exact ahM bS fn a P w b0
section
variable {C:Ctx}
theorem Zo (ex:hk):gu C.P (qF C ex):=by
 intro f args h v aa he
 trivial
def qk (aw:Fr) (E:Env) (R:Ending→World→Prop):aY→Prop
 | .val v aa=>∀av x ao,E.le av→Rel av v x→a' aw av aa ao→R (.returned x) ao
 | .cH v aa=>∀av x ao,E.le av→Rel av v x→a' aw av aa ao→R (.panicked (oJ x)) ao
 | .fail=>False
theorem qk.up {aw:Fr} {E av:Env} (h:E.le av) {R:Ending→World→Prop} {x:aY} (k:qk aw E R x):qk aw av R x:=by
 cases x with
 | val v bf=>exact fun cn a w ae=>k cn a w (h.trans ae)
 | cH v bf=>exact fun cn a w ae=>k cn a w (h.trans ae)
 | fail=>exact k
theorem GY (bG:ez C.P) {jz:td} (kx:AT C.P jz) {aw:Fr} {fn:Func} {E:Env} {r:bA} {u:Option V} {h:af} {a:Act} {w:World} {m:FrameMode} {R:Ending→World→Prop}
 (k:e8 E fn.ntmps r a) (hu:j4 E u m) (s:a' aw E h w)
 (ah:qk aw E R (finish (jU C.P fn.ntmps fn.results.toList) r (l3 jz (T.get .bad eF r).list u h))):LeavesInM (ch none) 0 C.P fn a.tmps R a.defers m w:=by
 cases ai:l3 jz (T.get .bad eF r).list u h with
 | fail=>rw [ai] at ah;exact ah.elim
 | go gL aa=>
   rw [ai] at ah
   refine IL bG kx _ a.defers E u h w m gL aa ai k.defers.list hu s fun av cj ao an az aN=>?_
   cases gL with
   | some v=>
     obtain ⟨x,aq,rfl⟩:=az
     exact ah av x ao an aq aN
   | none=>
     simp only [j4] at az
     subst az
     simp only [finish] at ah
     cases bs:(jU C.P fn.ntmps fn.results.toList).run r aa with
     | none=>rw [bs] at ah;exact ah.elim
     | some ad=>
       rw [bs] at ah
       obtain ⟨x,bS,b0⟩:=J0 (P:=C.P) (k.mono an).toRegRel0 aN bs
       exact ⟨x,bS,ah av x ao an b0 aN⟩
theorem M4 {res:vy} {u gL:Option V} {x:kU} {aa:af} (he:BG res u x=.go gL aa):∃e r ad,x=.ok e r aa∧(e=.normal∨e=.ret)∧T.get .bad eF r=.bad∧res.run r aa=some ad∧gL=u:=by
 unfold BG at he
 cases x with
 | fail=>cases he
 | cH _ _ _=>cases he
 | ok e r h=>
   have main:(bif (T.get .bad eF r).ID then (match res.run r h with
    | some _=>rJ.go u h
    | none=>.fail) else .fail)=.go gL aa→(e=.normal∨e=.ret)→∃dj bw ad,kU.ok e r h=.ok dj bw aa∧(dj=.normal∨dj=.ret)∧T.get .bad eF bw=.bad∧res.run bw aa=some ad∧gL=u:=by
    intro he hb
    cases ag:(T.get .bad eF r).ID with
    | false=>rw [ag] at he;cases he
    | true=>
      rw [ag] at he
      simp only [cond_true] at he
      have acb:T.get .bad eF r=.bad:=by
       cases aH:T.get .bad eF r<;>rw [aH] at ag<;>first
        | rfl
        | cases ag
      cases bs:res.run r h with
      | none=>rw [bs] at he;cases he
      | some ad=>
        rw [bs] at he
        simp only [rJ.go.injEq] at he
        obtain ⟨rfl,rfl⟩:=he
        exact ⟨e,r,ad,rfl,hb,acb,bs,rfl⟩
   cases e with
   | normal=>exact main he (.inl rfl)
   | ret=>exact main he (.inr rfl)
   | exit id=>cases he
theorem aiZ {c:Code} {s:EI} (h:DF c=some s):∃id dC dA args types,c=.seq (.region id #[dC,dA] false) s.rest∧dC.dst=some s.d∧dC.op=.call ⟨.builtin .recover,args,types⟩∧dC.guard=none∧dA.dst=some s.e∧dA.op=.assign s.x∧dA.guard=none:=by
 unfold DF at h
 split at h
 case h_2=>cases h
 rename_i id ops rest
 split at h
 case h_2=>cases h
 rename_i dC dA ai
 split at h
 case h_2=>cases h
 rename_i d args types e x ab ae aG ba cz cf
 cases h
 have adi:ops=#[dC,dA]:=by apply Array.ext';simp [ai]
 subst adi
 exact ⟨id,dC,dA,_,_,rfl,ab,ae,aG,ba,cz,cf⟩
theorem aai (cY:C.P.follows .mixedOrders=true) (bG:ez C.P) {ex:hk} (hex:rF C.P ex):AT C.P (BF C.P ex):=by
 intro f args u h gL aa he
 unfold BF at he
 cases ay:C.P.funcs[f]? with
 | none=>rw [ay] at he;cases he
 | some fn=>
   rw [ay] at he
   simp only at he
   cases ag:fn.body with
   | none=>rw [ag] at he;cases he
   | some c=>
     rw [ag] at he
     simp only at he
     refine ⟨⟨fn,rfl,by rw [ag];rfl⟩,fun aw E w xs m ai hu s=>?_⟩
     cases gy:Nat.ble fn.ntmps top with
     | false=>rw [gy] at he;cases he
     | true=>
       rw [gy] at he
       simp only [cond_true] at he
       rw [Nat.ble_eq] at gy
       unfold M5 at he
       cases kv:Nat.ble args.length fn.ntmps with
       | false=>rw [kv] at he;cases he
       | true=>
         rw [kv] at he
         simp only [cond_true] at he
         rw [Nat.ble_eq] at kv
         have k:=Nq ai kv gy
         cases aJ:DF c with
         | none=>
           rw [aJ] at he
           simp only at he
           obtain ⟨e,r,ad,aq,hb,wB,bs,rfl⟩:=M4 he
           refine CallsDIn.mono (callsDIn_of_wp (R:=fun e ao=>∃av x,e=.returned x∧E.le av∧a' aw av aa ao) ay ag trivial ?_) fun dj cj ao aA=>?_
           · refine (hex fn.ntmps c none aw _ h (.inl rfl) E _ w k s _ ?_).wp
             rw [aq]
             intro av bm ao an az aN
             have aZ:bm.defers=[]:=by have:=az.defers;rw [wB] at this;exact this
             obtain ⟨x,bS,b0⟩:=J0 (P:=C.P) az.toRegRel0 aN bs
             rcases hb with rfl | rfl<;>exact ⟨aZ,x,bS,av,x,rfl,an,aN⟩
           · obtain ⟨rfl,av,x,rfl,an,aN⟩:=aA
             exact ⟨av,x,rfl,an,by rw [hu.settle];exact hu.mono an,aN⟩
         | some oP=>
           rw [aJ] at he
           simp only at he
           cases gH:(e3 fn.ntmps (some oP.d)&&e3 fn.ntmps (some oP.e)) with
           | false=>rw [gH] at he;cases he
           | true=>
             rw [gH] at he
             simp only [cond_true] at he
             simp only [Bool.and_eq_true] at gH
             obtain ⟨e,r,ad,aq,hb,wB,bs,rfl⟩:=M4 he
             obtain ⟨id,dC,dA,As,rt,rfl,g1,g2,g3,g4,g5,g6⟩:=aiZ aJ
             refine callsDIn_of_wpSIn ay ag trivial fun tC cs Hm=>wpSIn_seq (wpSIn_region ?_)
             obtain ⟨X,c_,kZ,gG,cj,lW,adA⟩:∃X,Rel E (u.getD .nilIface) X∧∃kZ,(match recoverD (tC::cs) with
              | some (v,Z7)=>v=X∧Z7=kZ
              | none=>X=.nilIface∧kZ=tC::cs)∧∃cj,kZ={tC with mode:=cj}::cs∧settle cj=.returning:=by
              cases u with
              | none=>
                simp only [j4] at hu
                subst hu
                refine ⟨.nilIface,rfl,tC::cs,?_,.returning,?_,rfl⟩
                · simp only [recoverD,Hm];exact ⟨trivial,trivial⟩
                · rw [←Hm]
              | some v=>
                obtain ⟨x,aq,rfl⟩:=hu
                refine ⟨x,aq,{tC with mode:=.panicking [{v:=x,recovered:=true}]}::cs,?_,.panicking [{v:=x,recovered:=true}],rfl,rfl⟩
                simp only [recoverD,Hm];exact ⟨trivial,trivial⟩
             have bz:=k.put gH.1 c_
             have bZ:=bz.put gH.2 (dz bz.toRegRel0 oP.x)
             rw [←g1] at bZ
             rw [←g4] at bZ
             have Cz:=(hex fn.ntmps oP.rest none aw _ h (.inl rfl) E _ w bZ s (fun dj bm ao=>bodyPostS C.P fn tC cs (fun e cj ao=>∃av x,e=.returned x∧E.le av∧j4 av none (settle cj)∧a' aw av aa ao) dj bm kZ ao) (by
              have:RQ oP u (lK 0 args .e)=(fj dA.dst).run ((fj dC.dst).run (lK 0 args .e) (u.getD .nilIface)) ((bQ oP.x).run ((fj dC.dst).run (lK 0 args .e) (u.getD .nilIface))):=by rw [g1,g4];rfl
              rw [←this,aq]
              intro av bm ao an az aN
              have aZ:bm.defers=[]:=by have:=az.defers;rw [wB] at this;exact this
              obtain ⟨x,bS,b0⟩:=J0 (P:=C.P) az.toRegRel0 aN bs
              rcases hb with rfl | rfl<;>exact ⟨aZ,cj,lW,x,bS,av,x,rfl,an,adA,aN⟩)).wp
             have Pc:=wpSIn_of_wpIn (F:=ch none) rfl Cz
             have q1:∀y,Region.wanted dC y=true:=fun y=>by simp [Region.wanted,g3]
             have sh:∀y,Region.wanted dA y=true:=fun y=>by simp [Region.wanted,g6]
             have adx:∀(ρ:Operand→Value),(execOp ρ dC).run C.P w=.ok .recover w:=fun ρ=>by
              obtain ⟨dst,op,type,pos,after,guard⟩:=dC
              simp only at g2
              subst g2
              rfl
             have zt:∀(ρ:Operand→Value),(execOp ρ dA).run C.P w=.ok (.value (ρ oP.x)) w:=fun ρ=>by
              obtain ⟨dst,op,type,pos,after,guard⟩:=dA
              simp only at g5
              subst g5
              rfl
             have ca:(#[dC,dA]:Array Oper).size=2:=rfl
             rw [ca]
             simp only [List.range_succ,List.range_zero,List.nil_append,List.cons_append,wpOpsSIn]
             have cS:(#[dC,dA]:Array Oper)[0]? =some dC:=rfl
             have aK:(#[dC,dA]:Array Oper)[1]? =some dA:=rfl
             rw [cS]
             simp only [q1,if_true,adx]
             refine ⟨fun _ _=>trivial,?_⟩
             cases O1:recoverD (tC::cs) with
             | none=>
               rw [O1] at gG
               obtain ⟨ab3,om⟩:=gG
               subst ab3 om
               simp only [aK,sh,if_true,zt]
               exact ⟨fun _ _=>trivial,Pc⟩
             | some Kw=>
               obtain ⟨v,alM⟩:=Kw
               rw [O1] at gG
               obtain ⟨rfl,rfl⟩:=gG
               simp only [aK,sh,if_true,zt]
               exact ⟨fun _ _=>trivial,Pc⟩
end
end
end Go.Proofs.YthemdhlheglhoaaGreatDoor.aX
namespace Go.Proofs.YthemdhlheglhoaaGreatDoor.aX
variable [Lay]
open Go Go.RowKit
theorem SC:∀(xs:List V) (x:V),DU (xs++[x])=some (xs,x)
 | [],x=>rfl
 | [y],x=>rfl
 | y::z::xs,x=>by
   have:=SC (z::xs) x
   simp only [List.cons_append] at this ⊢
   simp only [DU,this]
theorem RegRel0.putAt {E:Env} {au:Nat} {r:bA} {t:Array Value} {ds:List Deferred} (k:RegRel0 E au r ⟨t,ds⟩) {d:Nat} (aZ:d<au) (aF:d≤top) {v:V} {x:Value} (bs:Rel E v x):
 RegRel0 E au (T.put .bad v (al d) r) ⟨t.setIfInBounds d x,ds⟩:=by
 refine ⟨by simp only [Array.size_setIfInBounds];exact k.size,fun j bK=>?_⟩
 rw [T.hr]
 have ca:=k.size
 simp only at ca
 by_cases h:d=j
 · subst h
   rw [if_pos rfl]
   simp [Array.getD_eq_getD_getElem?,ca,aZ,bs]
 · rw [if_neg (fun e=>h (dW e))]
   have:=k.ar j bK
   simpa [Array.getD_eq_getD_getElem?,Array.getElem?_setIfInBounds,h] using this
theorem Rt {E:Env} {au:Nat} {ds:List Deferred}:∀(bg:List Nat) (ad:List V) (xs:List Value) (r:bA) (t:Array Value),nJ au bg=true→bc E ad xs→RegRel0 E au r ⟨t,ds⟩→
 RegRel0 E au (ra bg ad r) ⟨(bg.zip xs).foldl (fun t (p:Nat × Value)=>t.setIfInBounds p.1 p.2) t,ds⟩
 | [],ad,xs,r,t,_,_,k=>by cases ad<;>exact k
 | p::bg,[],xs,r,t,_,ai,k=>by simp only [bc] at ai;subst ai;exact k
 | p::bg,v::ad,xs,r,t,ah,ai,k=>by
   obtain ⟨y,cJ,rfl,a_,ai⟩:=ai
   simp only [nJ,List.all_cons,Bool.and_eq_true,Nat.blt_eq,Nat.ble_eq] at ah
   simp only [ra,List.zip_cons_cons,List.foldl_cons]
   exact Rt bg ad cJ _ _ ah.2 ai (k.putAt ah.1.1 ah.1.2 a_)
theorem Ru {E:Env} {au:Nat} {ds:List Deferred} {bg:Array Nat} {ad:List V} {xs:List Value} {r:bA} {t:Array Value} (ah:nJ au bg.toList=true) (ai:bc E ad xs) (k:RegRel0 E au r ⟨t,ds⟩):
 RegRel0 E au (ra bg.toList ad r) ⟨(bg.zip xs.toArray).foldl (fun t (p:Nat × Value)=>t.setIfInBounds p.1 p.2) t,ds⟩:=by
 rw [←Array.foldl_toList,Array.toList_zip]
 exact Rt bg.toList ad xs r t ah ai k
theorem RegRel0.VC {E:Env} {au:Nat} {r:bA} {a:Act} (k:RegRel0 E au r a) (v:V):RegRel0 E au (T.put .bad v eF r) a:=
 ⟨k.size,fun t aF=>by rw [T.hr,if_neg (fun e=>uW aF e.symm)];exact k.ar t aF⟩
section
variable {C:Ctx}
theorem aa8 (bG:ez C.P) (cY:C.P.follows .mixedOrders=true) {ex:hk} (hex:rF C.P ex) {f:FuncId} {args:List V} {h:af} {aw:Fr} {E:Env} {w:World} {xs:List Value} (ai:bc E args xs) (s:a' aw E h w) {R:Ending→World→Prop}
 (ah:qk aw E R ((G0 C.P f).run ex args h)):(∃fn,C.P.funcs[f]? =some fn∧fn.body.isSome=true)∧Calls C.P f xs.toArray w R:=by
 unfold G0 at ah
 cases ay:C.P.funcs[f]? with
 | none=>rw [ay] at ah;exact ah.elim
 | some fn=>
   rw [ay] at ah
   simp only at ah
   cases ag:fn.body with
   | none=>rw [ag] at ah;exact ah.elim
   | some c=>
     rw [ag] at ah
     simp only at ah
     refine ⟨⟨fn,rfl,by rw [ag];rfl⟩,?_⟩
     cases gy:Nat.ble fn.ntmps top with
     | false=>rw [gy] at ah;exact ah.elim
     | true=>
       rw [gy] at ah
       simp only [cond_true] at ah
       rw [Nat.ble_eq] at gy
       unfold NS at ah
       cases kv:Nat.ble args.length fn.ntmps with
       | false=>rw [kv] at ah;exact ah.elim
       | true=>
         rw [kv] at ah
         simp only [cond_true] at ah
         rw [Nat.ble_eq] at kv
         have k:=Nq ai kv gy
         have kx:=aai (C:=C) cY bG hex
         refine rY.1 (callsIn_of_wp_marks (F:=ch none) (n:=0) ay ag trivial ?_)
         refine (hex fn.ntmps c none aw _ h (.inl rfl) E _ w k s _ ?_).wp
         cases aJ:ex fn.ntmps c (lK 0 args .e) h with
         | fail=>rw [aJ] at ah;exact ah
         | cH v r ab=>
           rw [aJ] at ah
           intro av bm ao x an az aN bM
           exact GY (u:=some v) bG kx az ⟨x,aN,rfl⟩ bM (qk.up an ah)
         | ok e r ab=>
           rw [aJ] at ah
           intro av bm ao an az aN
           have main:qk aw E R (finish (jU C.P fn.ntmps fn.results.toList) r (l3 (BF C.P ex) (T.get .bad eF r).list none ab))→LeavesInM (ch none) 0 C.P fn bm.tmps R bm.defers .returning ao:=by
            intro ah
            exact GY (u:=none) bG kx az rfl aN (qk.up an ah)
           cases e with
           | normal=>exact main ah
           | ret=>exact main ah
           | exit id=>exact ah.elim
theorem B0 (bG:ez C.P) (cY:C.P.follows .mixedOrders=true) (hJ:ql C) {ex:hk} (hex:rF C.P ex) {f:FuncId} {args:List V} {h:af} {aw:Fr} {E:Env} {w:World} {xs:List Value} (ai:bc E args xs) (s:a' aw E h w) {R:Ending→World→Prop}
 (ah:qk aw E R ((wb C f).run ex args h)):(∃fn,C.P.funcs[f]? =some fn∧fn.body.isSome=true)∧Calls C.P f xs.toArray w R:=by
 unfold wb at ah
 cases aA:C.JC f with
 | none=>rw [aA] at ah;exact aa8 bG cY hex ai s ah
 | some p=>
   rw [aA] at ah
   simp only at ah
   cases aJ:p.run args h with
   | fail=>rw [aJ] at ah;exact ah.elim
   | cH _ _=>rw [aJ] at ah;exact ah.elim
   | val v aa=>
     rw [aJ] at ah
     obtain ⟨ab,ae⟩:=hJ.1 f p args h v aa aA aJ
     refine ⟨ab,(ae aw E w xs ai s).mono fun e ao aA=>?_⟩
     obtain ⟨av,x,rfl,an,az,aN⟩:=aA
     exact ah av x ao an az aN
theorem a'.loop {P:Program} {aw:Fr} {E:Env} {h:af} {w:World} (s:a' aw E h w) {b:aP} {l cR:jv} {p:ih} {o b8:Loop} (aH:h.get b=.cr l) (ah:E b=some p) (c2:aw.w.heap.size≤p.aW) (bf:w.heap[p.aW]? =some (.loop o)) (aJ:tn E cR b8):
 (setObj p.aW (.loop b8)).run P w=.ok () {w with heap:=w.heap.setIfInBounds p.aW (.loop b8)}∧a' aw E (h.set b (.cr cR)) {w with heap:=w.heap.setIfInBounds p.aW (.loop b8)}:=by
 have kB:=(Array.getElem?_eq_some_iff.1 bf).1
 refine ⟨by simp only [setObj,Sem.run,bf],s.set (p:=p) (by rw [aH];rfl) ah c2 (by simp) (fun j bK=>?_) rfl rfl rfl (fun _ _ _ e=>by cases e) ?_⟩
 · simp only [Array.getElem?_setIfInBounds]
   rw [if_neg (fun e=>bK e.symm)]
 · exact ⟨p,b8,ah,c2,by simp [kB],aJ⟩
theorem run_getLoop {P:Program} {r:Nat} {w:World} {o:Loop} (bf:w.heap[r]? =some (.loop o)):(Instr.getLoop r).run P w=.ok o w:=by
 have:(getObj r).run P w=.ok (.loop o) w:=by simp only [getObj,Sem.run,bf]
 simp only [Instr.getLoop,Sem.run_bind,this,Result.andThen_ok,Sem.run_pure]
theorem R3 {aw:Fr} {E:Env} {h aa:af} {w:World} {b:aP} {p:ih} {e:de} {v:V} {P:Program} {R:Ending→World→Prop} {a:Act} (s:a' aw E h w) (ah:E b=some p) (he:u2 b e h=.val v aa)
 (cM:∀x ao,Rel E v x→a' aw E aa ao→R (.returned x) ao):roundPost P p.aW R (toExit e) a w:=by
 unfold u2 at he
 have ag:=s.at ah
 cases aH:h.get b<;>rw [aH] at he ag<;>simp only at he<;>try (cases he;done)
 rename_i l
 obtain ⟨p',o,fF,c2,bf,aJ⟩:=ag
 rw [ah] at fF;cases fF
 have wF:=run_getLoop (P:=P) bf
 obtain ⟨bl,bT,cg,c7,c1,eQ,lx,jT⟩:=aJ
 cases e with
 | normal=>
   simp only [aY.val.injEq] at he
   obtain ⟨rfl,rfl⟩:=he
   obtain ⟨ab,ae⟩:=s.loop (P:=P) (cR:=⟨0,none,l.d,l.au,l.r,l.bg,l.assign,l.body⟩) (b8:={o with state:=.ready,pending:=none}) aH ah c2 bf ⟨rfl,rfl,cg,c7,c1,eQ,lx,jT⟩
   refine ⟨.bool true,_,?_,cM _ _ rfl ae⟩
   simp only [Instr.endRound,Sem.run_bind,wF,Result.andThen_ok,Option.isNone_none,if_true,ab,Sem.run_pure]
 | ret=>
   simp only [aY.val.injEq] at he
   obtain ⟨rfl,rfl⟩:=he
   obtain ⟨ab,ae⟩:=s.loop (P:=P) (cR:=⟨2,some .ret,l.d,l.au,l.r,l.bg,l.assign,l.body⟩) (b8:={o with state:=.done,pending:=some .ret}) aH ah c2 bf ⟨rfl,rfl,cg,c7,c1,eQ,lx,jT⟩
   refine ⟨.bool false,_,?_,cM _ _ rfl ae⟩
   simp only [Instr.endRound,Sem.run_bind,wF,Result.andThen_ok,Option.isNone_some,Bool.false_eq_true,if_false,ab,Sem.run_pure]
 | exit id=>
   simp only [aY.val.injEq] at he
   obtain ⟨rfl,rfl⟩:=he
   obtain ⟨ab,ae⟩:=s.loop (P:=P) (cR:=⟨2,some (.exit id),l.d,l.au,l.r,l.bg,l.assign,l.body⟩) (b8:={o with state:=.done,pending:=some (.exit id)}) aH ah c2 bf ⟨rfl,rfl,cg,c7,c1,eQ,lx,jT⟩
   refine ⟨.bool false,_,?_,cM _ _ rfl ae⟩
   simp only [Instr.endRound,Sem.run_bind,wF,Result.andThen_ok,Option.isNone_some,Bool.false_eq_true,if_false,ab,Sem.run_pure]
theorem aje {P:Program} {ex:hk} (hex:rF P ex) {aw:Fr} {E:Env} {h aa:af} {w:World} {args:List V} {xs:List Value} {b:aP} {p:ih} {v:V} (he:Ax ex args b h=.val v aa) (ai:bc E args xs) (s:a' aw E h w) (ah:E b=some p):
 ∃f tmps assign body,(Instr.yield p.aW xs.toArray).run P w=.ok (.round p.aW f tmps assign body) w∧
  RoundIn (ch none) 0 P p.aW f tmps assign body w fun e ao=>∃av x,e=.returned x∧E.le av∧Rel av v x∧a' aw av aa ao:=by
 unfold Ax at he
 have ag:=s.at ah
 cases aH:h.get b<;>rw [aH] at he ag<;>simp only at he<;>try (cases he;done)
 rename_i l
 obtain ⟨p',o,fF,c2,bf,aJ⟩:=ag
 rw [ah] at fF;cases fF
 obtain ⟨bl,bT,cg,c7,c1,eQ,lx,jT⟩:=aJ
 obtain ⟨aI,he⟩:=jg he
 simp only [Bool.and_eq_true,Nat.beq_eq] at aI
 obtain ⟨bu,bI,c3,dN⟩:=aI
 have hlen:=ai.length
 have um:o.params.size=xs.length:=by rw [←Array.length_toList,cg,hlen,bu]
 refine ⟨o.fn,(o.params.zip xs.toArray).foldl (fun tmps (t,a)=>tmps.setIfInBounds t a) o.tmps,o.assign,o.body,?_,?_⟩
 · simp only [Instr.yield,Sem.run_bind,run_getLoop bf,Result.andThen_ok]
   rw [if_neg (by simp [um])]
   rfl
 · rw [c7,c1]
   refine roundIn_of_wpIn (F:=ch none) trivial ?_
   have pT:RegRel0 E l.au l.r ⟨o.tmps,[]⟩:=⟨eQ,lx⟩
   rw [←cg] at bI he
   have bz:=(Ru bI ai pT).VC .bad
   have k:e8 E l.au (T.put .bad .bad eF (ra o.params.toList args l.r)) ⟨(o.params.zip xs.toArray).foldl (fun t (p:Nat × Value)=>t.setIfInBounds p.1 p.2) o.tmps,[]⟩:=⟨bz,by rw [T.hr,if_pos rfl];simp [ko]⟩
   have adT:=hex l.au l.assign (some p.aW) aw _ h (.inr c3) E _ w k s (Exit.then (fun qz ry=>∃AJ,(Instr.beginRound p.aW).run P ry=.ok () AJ∧
    l.body.wpIn (ch (some p.aW)) 0 P (roundPost P p.aW fun e ao=>∃av x,e=.returned x∧E.le av∧Rel av v x∧a' aw av aa ao) qz AJ) (fun _ _ _=>False))
   refine (adT ?_).wp
   cases aq:ex l.au l.assign (T.put .bad .bad eF (ra o.params.toList args l.r)) h with
   | fail=>rw [aq] at he;cases he
   | cH _ _ _=>rw [aq] at he;cases he
   | ok e aiM ab=>
     rw [aq] at he
     cases e<;>simp only at he<;>try (cases he;done)
     intro fl bH b3 an az aN
     unfold DL at he
     have ht:=an _ _ ah
     have jh:=aN.at ht
     cases Oz:ab.get b<;>rw [Oz] at he jh<;>simp only at he<;>try (cases he;done)
     rename_i eg
     obtain ⟨bS,dC,zl,og,pG,qX⟩:=jh
     rw [ht] at zl;cases zl
     obtain ⟨cG,he⟩:=jg he
     rw [Nat.beq_eq] at cG
     obtain ⟨t1,t2,t3,t4,t5,t6,t7,t8⟩:=qX
     obtain ⟨g1,g2⟩:=aN.loop (P:=P) (cR:=⟨1,eg.dc,eg.d,eg.au,eg.r,eg.bg,eg.assign,eg.body⟩) (b8:={dC with state:=.busy}) Oz ht og pG ⟨rfl,t2,t3,t4,t5,t6,t7,t8⟩
     refine ⟨{b3 with heap:=b3.heap.setIfInBounds p.aW (.loop {dC with state:=.busy})},?_,?_⟩
     · have zr:dC.state=.ready:=by rw [t1,cG];rfl
       simp only [Instr.beginRound,Sem.run_bind,run_getLoop pG,Result.andThen_ok,g1,zr,Sem.run_pure]
     · refine (hex l.au l.body (some p.aW) aw _ _ (.inr dN) fl _ _ az g2 _ ?_).wp
       cases w0:ex l.au l.body aiM (ab.set b (.cr ⟨1,eg.dc,eg.d,eg.au,eg.r,eg.bg,eg.assign,eg.body⟩)) with
       | fail=>rw [w0] at he;cases he
       | cH _ _ _=>rw [w0] at he;cases he
       | ok aS aiN ae=>
         rw [w0] at he
         simp only at he
         intro cn a2 b4 cF z2 z3
         exact R3 z3 (cF _ _ ht) he fun x ao ek eJ=>⟨cn,x,rfl,an.trans cF,ek,eJ⟩
theorem Zq (cY:C.P.follows .mixedOrders=true) (bG:ez C.P) (hJ:ql C) {ex:hk} (hex:rF C.P ex):gk C.P (qF C ex) where
 fn:=by
  intro aw f args h v aa ay he E w xs ai s
  unfold qF at he
  rw [ho,if_neg ay] at he
  cases aq:C.ext f with
  | some p=>
    rw [aq] at he
    simp only at he
    cases aJ:p.run args h with
    | fail=>rw [aJ] at he;cases he
    | cH _ _=>rw [aJ] at he;cases he
    | val v1 ab=>
      rw [aJ] at he
      simp only [aY.Jb,aY.val.injEq] at he
      obtain ⟨rfl,rfl⟩:=he
      exact .inr (hJ.2 f p args h _ _ aq aJ aw E w xs ai s)
  | none=>
  rw [aq] at he
  simp only at he
  exact .inl (B0 bG cY hJ hex ai s (by rw [he];exact fun av x ao an az aN=>⟨av,x,rfl,an,az,aN⟩))
 cH:=by
  intro aw f args h v aa ay he E w xs ai s
  unfold qF at he
  rw [ho,if_neg ay] at he
  cases aq:C.ext f with
  | some p=>
    rw [aq] at he
    simp only at he
    cases aJ:p.run args h<;>rw [aJ] at he<;>cases he
  | none=>
  rw [aq] at he
  simp only at he
  exact B0 bG cY hJ hex ai s (by rw [he];exact fun av x ao an az aN=>⟨av,x,rfl,an,az,aN⟩)
 D5:=by
  intro aw args b h v aa he E w xs p ai s ah
  unfold qF at he
  rw [ho,if_pos rfl] at he
  unfold J3 at he
  rw [SC] at he
  exact aje hex he ai s ah
 Tp:=by
  intro args h v aa he
  unfold qF at he
  rw [ho,if_pos rfl] at he
  have aK:∀b e h,u2 b e h≠.cH v aa:=by
   intro b e h he
   unfold u2 at he
   split at he
   · cases e<;>cases he
   · cases he
  have aS:∀au c b r h,DL ex au c b r h≠.cH v aa:=by
   intro au c b r h he
   unfold DL at he
   split at he
   case h_2=>cases he
   rename_i l ai
   cases aI:Nat.beq l.st 0 with
   | false=>rw [aI] at he;cases he
   | true=>
     rw [aI] at he
     simp only [cond_true] at he
     split at he
     · exact aK _ _ _ he
     · cases he
  have bn:∀xs b h,Ax ex xs b h≠.cH v aa:=by
   intro xs b h he
   unfold Ax at he
   split at he
   case h_2=>cases he
   rename_i l ai
   cases aI:(Nat.beq xs.length l.bg.length&&(nJ l.au l.bg&&(noMark l.assign&&noMark l.body))) with
   | false=>rw [aI] at he;cases he
   | true=>
     rw [aI] at he
     simp only [cond_true] at he
     split at he
     case h_2=>cases he
     rename_i e r ab _
     cases e<;>simp only at he<;>try (cases he;done)
     exact aS _ _ _ _ _ he
  unfold J3 at he
  split at he
  case h_2=>cases he
  split at he
  case h_2=>cases he
  exact bn _ _ _ he
end
end Go.Proofs.YthemdhlheglhoaaGreatDoor.aX
namespace Go.Proofs.YthemdhlheglhoaaGreatDoor.aX
variable [Lay]
open Go Go.RowKit
section
variable {C:Ctx}
theorem aaP {P:Program} {e:de} {Q:Exit→Act→World→Prop} {a:Act} {w:World} (h:Q (toExit e) a w):(GX e).wpIn (ch none) 0 P Q a w:=by
 cases e with
 | normal=>exact wpIn_skip h
 | exit id=>exact wpIn_exit h
 | ret=>exact wpIn_ret h
theorem aiW (cY:C.P.follows .mixedOrders=true) (bG:ez C.P) (hJ:ql C) {ex:hk} (hex:rF C.P ex) {f:Operand} {bg:Array Tmp} {assign body:Code} {au:Nat} {aw:Fr} {E:Env} {r:bA} {h:af} {a:Act} {w:World} {Q:Exit→Act→World→Prop}
 (k:e8 E au r a) (s:a' aw E h w) (ah:vv aw E au Q (JP (fun g args h=>(wb C g).run ex args h) (bQ f) bg.toList au assign body r h)):(Code.rangeFunc f bg assign body).wpIn (ch none) 0 C.P Q a w:=by
 unfold JP at ah
 have ay:=dz k.toRegRel0 f
 generalize (bQ f).run r=va at ah ay
 cases va<;>simp only at ah<;>try (exact ah.elim)
 rename_i g cs
 rw [ho] at ah
 by_cases aH:g=dk
 · rw [if_pos aH] at ah;exact ah.elim
 · rw [if_neg aH] at ah
   simp only [Rel] at ay
   rcases ay with ⟨_,eB,c_,ai⟩ | ⟨HA,_⟩
   case inr=>exact absurd HA aH
   refine wpIn_rangeFunc fun fn _=>?_
   have f0:=s.fresh h.next (Nat.le_refl _)
   obtain ⟨fl,tP⟩:∃fl,fl=E.put (al h.next) ⟨w.heap.size,0,0⟩:=⟨_,rfl⟩
   obtain ⟨b3,q1⟩:∃b3:World,b3={w with heap:=w.heap.push (.deferred (some []))}:=⟨_,rfl⟩
   have zo:fl (al h.next)=some ⟨w.heap.size,0,0⟩:=by rw [tP];unfold Env.put;rw [if_pos rfl]
   have s1:a' aw fl (h.new .er) b3:=by
    rw [tP,q1]
    refine s.alloc 0 ⟨⟨w.heap.size,0,0⟩,by unfold Env.put;rw [if_pos rfl],s.frame.size,by simp⟩
   have nz:E.le fl:=by rw [tP];exact Env.kK f0
   have uv:b3.heap.size=w.heap.size+1:=by rw [q1];simp
   obtain ⟨o,aT⟩:∃o:Loop,o={state:=.ready,pending:=none,fn,tmps:=a.tmps,params:=bg,assign,body,defers:=w.heap.size}:=⟨_,rfl⟩
   obtain ⟨cn,qL⟩:∃cn,cn=fl.put (al (h.next+1)) ⟨b3.heap.size,0,0⟩:=⟨_,rfl⟩
   obtain ⟨b4,sh⟩:∃b4:World,b4={b3 with heap:=b3.heap.push (.loop o)}:=⟨_,rfl⟩
   have f1:fl (al (h.next+1))=none:=s1.fresh (h.next+1) (Nat.le_refl _)
   have kJ:fl.le cn:=by rw [qL];exact Env.kK f1
   have zp:cn (al (h.next+1))=some ⟨b3.heap.size,0,0⟩:=by rw [qL];unfold Env.put;rw [if_pos rfl]
   have cr:tn cn ⟨0,none,al h.next,au,r,bg.toList,assign,body⟩ o:=by
    subst aT
    exact ⟨rfl,rfl,rfl,rfl,rfl,k.size,fun t aF=>Rel.mono (nz.trans kJ) _ _ (k.ar t aF),_,kJ _ _ zo,rfl⟩
   have s2:a' aw cn ((h.new .er).new (.cr ⟨0,none,al h.next,au,r,bg.toList,assign,body⟩)) b4:=by
    rw [qL,sh]
    refine s1.alloc 0 ⟨⟨b3.heap.size,0,0⟩,o,by show fl.put (al (h.next+1)) _ (al (h.next+1))=_;unfold Env.put;rw [if_pos rfl],by show aw.w.heap.size≤b3.heap.size;rw [uv];have:=s.frame.size;omega,by simp,?_⟩
    have:=cr
    rw [qL] at this
    exact this
   obtain ⟨hf,ot⟩:∃hf,hf=b3.heap.size:=⟨_,rfl⟩
   have a_:Rel cn (.func dk [.ptr (al (h.next+1)) 0]) (.func (.yield hf) #[] #[]):=by
    simp only [Rel]
    exact .inr ⟨trivial,_,_,rfl,zp,by rw [ot]⟩
   have oi:bc cn (.func dk [.ptr (al (h.next+1)) 0]::cs) (.func (.yield hf) #[] #[]::eB.toList):=by
    simp only [bc]
    exact ⟨_,_,rfl,a_,bc.mono (nz.trans kJ) _ _ ai⟩
   have cN:=B0 (C:=C) bG cY hJ hex (f:=g) oi s2 (R:=rangePost (ch none) 0 C.P hf Q {a with defers:=[{target:=.collected w.heap.size,args:=#[]}]++a.defers})
   cases aJ:(wb C g).run ex (.func dk [.ptr (al (h.next+1)) 0]::cs) ((h.new .er).new (.cr ⟨0,none,al h.next,au,r,bg.toList,assign,body⟩)) with
   | fail=>rw [aJ] at ah;exact ah.elim
   | cH _ _=>rw [aJ] at ah;exact ah.elim
   | val v aa=>
     rw [aJ] at ah cN
     simp only at ah
     obtain ⟨⟨aa7,jj,ag⟩,aI⟩:=cN (by
      intro av x ao an az aN
      simp only [rangePost]
      unfold RL at ah
      have hx:=an _ _ zp
      have ag:=aN.at hx
      cases wF:aa.get (al (h.next+1))<;>rw [wF] at ah ag<;>simp only at ah<;>try (exact ah.elim)
      rename_i l
      obtain ⟨p',b8,fF,c2,bf,zg⟩:=ag
      rw [hx] at fF;cases fF
      obtain ⟨t1,t2,t3,t4,t5,t6,t7,t8⟩:=zg
      rw [ho] at ah
      by_cases cG:l.st=1
      · rw [if_pos cG] at ah;exact ah.elim
      · rw [if_neg cG] at ah
        simp only at bf
        rw [←ot] at bf
        have HS:(b8.state == LoopState.busy)=false:=by
         rw [t1]
         match k6:l.st with
         | 0=>rfl
         | 1=>exact absurd k6 cG
         | n+2=>rfl
        have kB:=(Array.getElem?_eq_some_iff.1 bf).1
        let gj:World:={ao with heap:=ao.heap.setIfInBounds hf (.loop {b8 with state:=.exhausted})}
        have fL:(Instr.endLoop hf).run C.P ao=.ok b8.pending gj:=by
         have qZ:(setObj hf (.loop {b8 with state:=.exhausted})).run C.P ao=.ok () gj:=by simp only [setObj,Sem.run,bf];rfl
         simp only [Instr.endLoop,Sem.run_bind,run_getLoop bf,Result.andThen_ok,HS,Bool.false_eq_true,if_false,qZ,Sem.run_pure]
        have sO:a' aw av (aa.set (al (h.next+1)) .dead) gj:=by
         refine aN.gone (p:=⟨b3.heap.size,0,0⟩) (by rw [wF];rfl) hx c2 (by simp [gj]) (fun j bK=>?_) rfl rfl rfl
         simp only at bK
         simp only [gj,Array.getElem?_setIfInBounds]
         rw [if_neg (fun e=>bK (by rw [←e,ot]))]
        have gI:e8 av au (T.put .bad (.tuple (.ptr (al h.next) 0::(T.get .bad eF r).list)) eF r) {a with defers:=[{target:=.collected w.heap.size,args:=#[]}]++a.defers}:=by
         refine ⟨⟨k.size,fun t aF=>?_⟩,?_⟩
         · rw [T.hr,if_neg (fun e=>uW aF e.symm)]
           exact Rel.mono (nz.trans (kJ.trans an)) _ _ (k.ar t aF)
         · rw [T.hr,if_pos rfl]
           simp only [ko,mf,List.cons_append,List.nil_append]
           exact ⟨_,_,rfl,⟨_,an _ _ (kJ _ _ zo),rfl⟩,(k.defers.mono (nz.trans (kJ.trans an))).list⟩
        refine ⟨b8.pending,gj,fL,?_⟩
        rw [t2]
        cases iu:l.dc with
        | none=>
          rw [iu] at ah
          exact ah av _ gj (nz.trans (kJ.trans an)) gI sO
        | some e=>
          rw [iu] at ah
          exact aaP (ah av _ gj (nz.trans (kJ.trans an)) gI sO))
     refine ⟨hf,[{target:=.collected w.heap.size,args:=#[]}],b4,{target:=.fn (.func g) eB,args:=#[]++#[.func (.yield hf) #[] #[]]},b4,g,_,b4,?_,?_,fun _ _=>trivial,?_,fun h=>by simp at h,rY.2 aI⟩
     · subst aT sh q1
       have he:=run_enterLoop_outer (P:=C.P) (w:=w) fn a.tmps bg assign body
       rw [World.alloc,World.alloc] at he
       simp only [Array.size_push] at ot ⊢
       rw [ot]
       exact he
     · simp only [resolve,c_,Deferred.ofValue,Sem.run_pure]
       simp [Act.eval]
     · simp only [invoke]
       have e:(#[]++#[Value.func (.yield hf) #[] #[]]:Array Value)++eB=(Value.func (.yield hf) #[] #[]::eB.toList).toArray:=by apply Array.ext';simp
       rw [e]
       exact sN bG jj ag _ b4
theorem xI {P:Program} {b:Frame} {a:Act} {k:List Item} {cs:List Frame} {w:World} {c:Code}:
 step P (lone (b.atR a (.code (.scope c)::k)) cs w)=.next (lone (b.atR a (.code c::.inScope c::k)) cs w):=
 step_lone_go (by simp [stepG,stepG.exec,Frame.atR])
theorem aj0 {P:Program} {b:Frame} {a:Act} {k:List Item} {cs:List Frame} {w:World} {c:Code}:
 step P (lone (b.atR a (.inScope c::k)) cs w)=.next (lone (b.atR a k) cs w):=
 step_lone_go (by simp [stepG,stepG.exec,Frame.atR])
theorem Sg {P:Program} {rd:Option Nat} {c:Code} {Q:Exit→Act→World→Prop} {a:Act} {w:World} (h:c.wpIn (ch rd) 0 P (Exit.noGoto Q) a w):(Code.scope c).wpIn (ch rd) 0 P Q a w:=by
 intro b k cs kE ag aJ
 obtain ⟨e,qz,ry,aA,iN⟩:=h b (.inScope c::k) cs kE ag aJ
 have aq:∀id,exitTo id (.inScope c::k)=exitTo id k:=fun id=>by simp [exitTo]
 cases e with
 | normal=>exact ⟨.normal,qz,ry,aA,.head (pB _) xI (StepsIn.trans iN (.one (pB _) aj0))⟩
 | exit id=>exact ⟨.exit id,qz,ry,aA,fun bt aE=>.head (pB _) xI (iN.1 bt (by rw [aq];exact aE)),fun qW aE=>let ⟨k₁,ab,ae⟩:=iN.2 qW (by rw [aq];exact aE);⟨k₁,ab,.head (pB _) xI ae⟩⟩
 | goto l=>exact aA.elim
 | ret=>exact ⟨_,qz,ry,aA,.of_steps (.one (pB _) xI) iN⟩
 | panic alK=>exact ⟨_,qz,ry,aA,.of_steps (.one (pB _) xI) iN⟩
 | outgrown=>exact ⟨_,qz,ry,aA,.of_steps (.one (pB _) xI) iN⟩
theorem ZS (cY:C.P.follows .mixedOrders=true) (bG:ez C.P) (hJ:ql C) {ex:hk} (hex:rF C.P ex) (au:Nat):∀c:Code,KW C.P au c ((ij C au c).run ex):=by
 have cN:=Zq cY bG hJ hex
 have dq:=Zo (C:=C) ex
 intro c
 induction c with
 | skip=>
   intro rd aw r h aJ E a w k s Q ah
   exact wpIn_skip (ah E a w (Env.le.refl E) k s)
 | label l=>
   intro rd aw r h aJ E a w k s Q ah
   exact wpIn_label (ah E a w (Env.le.refl E) k s)
 | exit id=>
   intro rd aw r h aJ E a w k s Q ah
   exact wpIn_exit (ah E a w (Env.le.refl E) k s)
 | ret=>
   intro rd aw r h aJ E a w k s Q ah
   exact wpIn_ret (ah E a w (Env.le.refl E) k s)
 | region id ops draw=>
   intro rd aw r h aJ E a w k s Q ah
   have lift:∀x:mX,vv aw E au Q (match x with | .ok bw aa=>.ok .normal bw aa | .cH v bw aa=>.cH v bw aa | .fail=>.fail)→mm aw E au (Q .normal) Q x:=by
    intro x aq
    cases x<;>exact aq
   cases draw with
   | true=>
     simp only [ij,cond_true,DG] at ah
     exact aar cY bG cN dq (lift _ ah) k s
   | false=>
     simp only [ij,cond_false,DG] at ah
     refine wpIn_region ?_
     have:=QW (rd:=rd) (Q:=Q) bG cN dq ops.toList 0 (fun j=>by simp) (aJ.imp (fun h=>h) fun h=>by simpa only [noMark,List.all_eq_true] using h) E r h a w (lift _ ah) k s
     rw [List.range_eq_range']
     simpa using this
 | seq x y uA uB=>
   intro rd aw r h aJ E a w k s Q ah
   simp only [ij,Sh] at ah
   have wR:rd=none∨noMark x=true:=aJ.imp (fun h=>h) fun h=>by simp only [noMark,Bool.and_eq_true] at h;exact h.1
   have Ig:rd=none∨noMark y=true:=aJ.imp (fun h=>h) fun h=>by simp only [noMark,Bool.and_eq_true] at h;exact h.2
   refine wpIn_seq (uA rd aw r h wR E a w k s _ ?_).wp
   cases aq:(ij C au x).run ex r h with
   | fail=>rw [aq] at ah;exact ah
   | cH v bl ab=>rw [aq] at ah;exact ah
   | ok aK bl ab=>
     rw [aq] at ah
     simp only at ah
     intro av bm ao an az aN
     cases aK with
     | normal=>exact (uB rd aw bl ab Ig av bm ao az aN Q (ah.up an)).wp
     | exit id=>exact ah av bm ao an az aN
     | ret=>exact ah av bm ao an az aN
 | cond c x y uA uB=>
   intro rd aw r h aJ E a w k s Q ah
   simp only [ij,MP] at ah
   have wR:rd=none∨noMark x=true:=aJ.imp (fun h=>h) fun h=>by simp only [noMark,Bool.and_eq_true] at h;exact h.1
   have Ig:rd=none∨noMark y=true:=aJ.imp (fun h=>h) fun h=>by simp only [noMark,Bool.and_eq_true] at h;exact h.2
   have aI:=dz k.toRegRel0 c
   cases bs:(bQ c).run r<;>rw [bs] at ah aI<;>simp only at ah<;>try (exact ah.elim)
   rename_i t
   simp only [Rel] at aI
   cases t with
   | true=>exact wpIn_cond_true aI (uA rd aw r h wR E a w k s Q ah).wp
   | false=>exact wpIn_cond_false aI (uB rd aw r h Ig E a w k s Q ah).wp
 | block id x bk=>
   intro rd aw r h aJ E a w k s Q ah
   simp only [ij,L9] at ah
   refine wpIn_block (bk rd aw r h (aJ.imp (fun h=>h) fun h=>h) E a w k s _ ?_).wp
   cases aq:(ij C au x).run ex r h with
   | fail=>rw [aq] at ah;exact ah
   | cH v bl ab=>rw [aq] at ah;exact ah
   | ok aK bl ab=>
     rw [aq] at ah
     simp only at ah
     intro av bm ao an az aN
     cases aK with
     | normal=>exact ah av bm ao an az aN
     | ret=>exact ah av bm ao an az aN
     | exit i=>
       simp only [ho] at ah
       simp only [toExit,Exit.inBlock]
       by_cases aC:i=id
       · rw [if_pos aC] at ah ⊢;exact ah av bm ao an az aN
       · rw [if_neg aC] at ah ⊢;exact ah av bm ao an az aN
 | loop x bk=>
   intro rd aw r h aJ E a w k s Q ah
   simp only [ij,Qk] at ah
   have wR:rd=none∨noMark x=true:=aJ.imp (fun h=>h) fun h=>h
   intro b c6 cs kE
   cases aq:(ij C au x).run ex r h with
   | fail=>rw [aq] at ah;exact ah.elim
   | cH v bl ab=>
     rw [aq] at ah
     have body:=(bk rd aw r h wR E a w k s (fun dj bm ao=>∃y,dj=.panic y∧Q dj bm ao) (by rw [aq];exact fun av bm ao x an az aN bM=>⟨_,rfl,ah av bm ao x an az aN bM⟩)).wp b (.inLoop x::c6) cs kE trivial (J2 _)
     obtain ⟨aS,a2,b4,⟨y,rfl,q⟩,iN⟩:=body
     exact ⟨_,a2,b4,q,.pass (x:=.inLoop x) rfl (fun _ _=>.inl (by simp)) iN⟩
   | ok aK bl ab=>
     rw [aq] at ah
     simp only at ah
     have body:=(bk rd aw r h wR E a w k s
      (fun dj bm ao=>dj=toExit aK∧∃av,E.le av∧e8 av au bl bm∧a' aw av ab ao) (by rw [aq];exact fun av bm ao an az aN=>⟨rfl,av,an,az,aN⟩)).wp b (.inLoop x::c6) cs kE trivial (J2 _)
     obtain ⟨aS,a2,b4,⟨rfl,cn,an,az,aN⟩,iN⟩:=body
     cases aK with
     | normal=>
       have next:=hex au (.loop x) rd aw bl ab aJ cn a2 b4 az aN Q (ah.up an)
       obtain ⟨bn,a3,kk,bS,b0⟩:=next b c6 cs kE
       exact ⟨bn,a3,kk,bS,.of_steps (StepsIn.trans iN (.one (pB _) stepR_inLoop)) b0⟩
     | exit id=>exact ⟨.exit id,a2,b4,ah cn a2 b4 an az aN,.pass (x:=.inLoop x) rfl (fun _ _=>.inl (by simp)) iN⟩
     | ret=>exact ⟨.ret,a2,b4,ah cn a2 b4 an az aN,.pass (x:=.inLoop x) rfl (fun _ _=>.inl (by simp)) iN⟩
 | scope x bk=>
   intro rd aw r h aJ E a w k s Q ah
   simp only [ij] at ah
   refine Sg (bk rd aw r h (aJ.imp (fun h=>h) fun h=>h) E a w k s _ ?_).wp
   cases aq:(ij C au x).run ex r h with
   | fail=>rw [aq] at ah;exact ah
   | cH v bl ab=>rw [aq] at ah;exact ah
   | ok aK bl ab=>
     rw [aq] at ah
     intro av bm ao an az aN
     have:=ah av bm ao an az aN
     cases aK<;>exact this
 | rangeFunc f bg x y _ _=>
   intro rd aw r h aJ E a w k s Q ah
   rcases aJ with rfl | aJ
   case inr=>cases aJ
   simp only [ij] at ah
   exact aiW cY bG hJ hex k s ah
 | goto l=>intro rd aw r h aJ E a w k s Q ah;exact ah.elim
 | refuse akT=>intro rd aw r h aJ E a w k s Q ah;exact ah.elim
end
end Go.Proofs.YthemdhlheglhoaaGreatDoor.aX
namespace Go.Proofs.YthemdhlheglhoaaGreatDoor.aX
variable [Lay]
open Go Go.RowKit
section
variable {C:Ctx}
theorem Ny (cY:C.P.follows .mixedOrders=true) (bG:ez C.P) (hJ:ql C):∀n,rF C.P (exec C n)
 | 0=>fun au c rd aw r h aJ E a w k s Q ah=>ah.elim
 | n+1=>fun au c=>ZS cY bG hJ (Ny cY bG hJ n) au c
theorem Zp (cY:C.P.follows .mixedOrders=true) (bG:ez C.P) (hJ:ql C) {n:Nat} {f:FuncId} {args:List V} {h aa:af} {v:V} (ay:Nat.beq f dk=false) (aq:C.ext f=none) (he:Bz C n f args h=.val v aa)
 {aw:Fr} {E:Env} {w:World} {xs:List Value} (ai:bc E args xs) (s:a' aw E h w):
 (∃fn,C.P.funcs[f]? =some fn∧fn.body.isSome=true)∧Calls C.P f xs.toArray w fun e ao=>∃av x,e=.returned x∧E.le av∧Rel av v x∧a' aw av aa ao:=by
 unfold Bz qF at he
 rw [ay,cond_false,aq] at he
 simp only at he
 exact B0 bG cY hJ (Ny cY bG hJ n) ai s (by rw [he];exact fun av x ao an az aN=>⟨av,x,rfl,an,az,aN⟩)
theorem Sr (w:World) (hw:Lay.ok w):a' ⟨w,fun _=>none⟩ (fun _=>none) af.empty w:=by
 refine ⟨fun b _=>?_,fun _ _ h=>(by cases h),(fun b bP p p' _ _ h=>by cases h),fun _ _=>rfl,Below.refl _ _,hw,(fun _ _ _ _ _ _ h=>by cases h)⟩
 have:af.empty.get b=.dead:=by simp [af.get,af.empty]
 rw [this]
 trivial
theorem aku (cY:C.P.follows .mixedOrders=true) (bG:ez C.P) {w:World} (hw:Lay.ok w) (hJ:ql C) {n:Nat} {f:FuncId} (ay:Nat.beq f dk=false) (aq:C.ext f=none) (h:Ku C n f []=true):
 Calls C.P f #[] w fun e ao=>e=.returned (.bool true)∧Below w.heap.size w ao:=by
 unfold Ku at h
 cases aI:Bz C n f [] af.empty with
 | fail=>rw [aI] at h;cases h
 | cH _ _=>rw [aI] at h;cases h
 | val v bf=>
   rw [aI] at h
   simp only at h
   cases v<;>simp only at h<;>try (cases h;done)
   subst h
   obtain ⟨_,jH⟩:=Zp cY bG hJ ay aq aI (aw:=⟨w,fun _=>none⟩) (E:=fun _=>none) (w:=w) (xs:=[]) rfl (Sr w hw)
   refine jH.mono fun e ao aA=>?_
   obtain ⟨av,x,rfl,_,az,aN⟩:=aA
   simp only [Rel] at az
   subst az
   exact ⟨rfl,aN.frame⟩
end
end Go.Proofs.YthemdhlheglhoaaGreatDoor.aX
