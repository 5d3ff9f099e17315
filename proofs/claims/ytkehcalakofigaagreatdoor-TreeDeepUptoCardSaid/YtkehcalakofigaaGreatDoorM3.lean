/- The abstract machine and its walks (a verified interpreter of the model's code: plain definitions and lemmas, no condition). Printed by a program from longer texts: names made short. -/
import Derived.Test.YtkehcalakofigaaGreatDoorM2
import Derived.Scope
import Derived.RangeFuncRecord
import Derived.Carry
import Derived.OpenShut
import Derived.ChangeSame
import Derived.Lib.Bytealg
import Derived.Lib.IndexMore
import Derived.Handed
import Derived.HandedShaped
import Derived.Shelf.SlIter.Sorted
import Derived.Shelf.SlIter.Nil
import Derived.StringKeys
import Derived.WideShapes
set_option linter.unusedSectionVars false
set_option linter.unusedSimpArgs false
set_option linter.unusedVariables false
namespace Go.Proofs.YtkehcalakofigaaGreatDoor.aY
variable [Lay]
open Go Go.RowKit
theorem xO {α:Type} (p q:α→Bool):∀(l:List α),(∀x ∈ l,q x=true→p x=true)→(∃x ∈ l,p x=true∧q x=false)→l.countP q<l.countP p
 | [],_,h=>by obtain ⟨x,ao,_⟩:=h;simp at ao
 | a::l,U,ad=>by
   have hle:l.countP q≤l.countP p:=List.countP_mono_left fun x ao=>U x (by simp [ao])
   obtain ⟨x,ao,ag,aE⟩:=ad
   simp only [List.mem_cons] at ao
   rcases ao with rfl | ao
   · rw [List.countP_cons,List.countP_cons,ag,aE]
     simp
     omega
   · have bh:=xO p q l (fun y a1=>U y (by simp [a1])) ⟨x,ao,ag,aE⟩
     have bm:=U a (by simp)
     rw [List.countP_cons,List.countP_cons]
     cases U2:q a with
     | true=>rw [bm U2];simp;omega
     | false=>simp;omega
theorem sz (e:Edge):Region.binds .any e=qF e:=by
 unfold Region.binds qF
 cases e.ground<;>rfl
section
variable {P:Program}
theorem p3 {order:List Nat}:∀{a':List Nat} {k j p:Nat},wC order k a'=true→a'[j]? =some p→order[p]? =some (k+j)
 | [],_,j,p,_,h=>by simp at h
 | q::a',k,j,p,ag,h=>by
   simp only [wC,Bool.and_eq_true] at ag
   cases j with
   | zero=>
     simp only [List.getElem?_cons_zero,Option.some.injEq] at h
     subst h
     have U:=ag.1
     cases aE:order[q]? with
     | none=>rw [aE] at U;cases U
     | some i=>rw [aE] at U;rw [Nat.beq_eq] at U;rw [U];rfl
   | succ j=>
     have:=p3 ag.2 (show a'[j]? =some p by simpa using h)
     rw [this]
     congr 1
     omega
theorem kq {ops:Array Oper}:∀{order:List Nat} {p i:Nat} {o:Oper},order[p]? =some i→ops[i]? =some o→(fJ ops order)[p]? =some o
 | [],p,i,o,h,_=>by simp at h
 | x::xs,p,i,o,h,aP=>by
   cases p with
   | zero=>
     simp only [List.getElem?_cons_zero,Option.some.injEq] at h
     subst h
     simp [fJ,aP]
   | succ p=>simpa [fJ] using kq (show xs[p]? =some i by simpa using h) aP
theorem mB {ops:Array Oper}:∀{order:List Nat},(fJ ops order).length=order.length
 | []=>rfl
 | x::xs=>by simp [fJ,mB (order:=xs)]
structure Cert (P:Program) (an:Nat) (ops:Array Oper) (calls:Nat→c4) (es:List dS) (bx:bp) (a6:ae) (cv:bp) (ax:ae) (dE:List Nat) (order aA:List Nat) (N M:Nat) (lit:Bool):Prop where
 len:es.length=N
 wg:N≤ops.size
 KH:N≤M
 gp:∀k,k<ops.size→posOf aA k<ops.size∧order[posOf aA k]? =some k
 iN:∀p,p<ops.size→∃i,i<ops.size∧posOf aA i=p
 a6:bT es ax 0=a6
 bx:dt es cv 0=bx
 step:∀i o,ops[i]? =some o→posOf aA i<N→∃e,es[posOf aA i]? =some e∧(b8 P an ops o).run (calls i) e.r e.h=.val e.v (bT es ax (posOf aA i+1))∧dt es cv (posOf aA i+1)=(ey o.dst).run e.r e.v
 j_:∀i o,ops[i]? =some o→∃ch,(dM [] ops.toList)[i]? =some ch∧jS i o=true∧(posOf aA i<M→
  ∀k ok,ops[k]? =some ok→posOf aA k<M→∃mk,(dM [] ops.toList)[k]? =some mk∧lG i ch (bO ops o) o.dst k mk ok (Nat.blt (posOf aA k) (posOf aA i))=true∧(dU P o.op=true→dj P ok=true→posOf aA k<posOf aA i→eH ch k=true∨(lit=true∧iE o=true∧iE ok=true)))
 ends:N ∈ dE
 mem:∀j o,ops[j]? =some o→dj P o=true→posOf aA j ∈ dE
 Mm:∀s ∈ dE,(s=ops.size∨(s=N∧M=N))∨∃k o,ops[k]? =some o∧dj P o=true∧s=posOf aA k
 ask:∀j o,ops[j]? =some o→looks o.op=true→dU P o.op=false→posOf aA j<N→∃e,es[posOf aA j]? =some e∧∀s ∈ dE,
  oI P (dM [] ops.toList) ops.toList aA j (((dM [] ops.toList)[j]?).getD 0) s=true→∃c aa,(fe P c∧fp P c)∧(b8 P an ops o).run c e.r (bT es ax s)=.val e.v aa
 tail:M<ops.size→M=N∧∀k ok mk,ops[k]? =some ok→N≤posOf aA k→(dM [] ops.toList)[k]? =some mk→∀j,j<ops.size→posOf aA j<N→eH mk j=true
 stop:N<ops.size→ops.size≤M→∃i0 gK m0,ops[i0]? =some gK∧posOf aA i0=N∧jl gK.op=true∧(dM [] ops.toList)[i0]? =some m0∧
  (∀k ok mk,ops[k]? =some ok→N<posOf aA k→(dM [] ops.toList)[k]? =some mk→eH mk i0=true)∧
  (∀k ok,ops[k]? =some ok→e_ ok=true→posOf aA k<N→eH m0 k=true)∧∃v aa,(b8 P an ops gK).run (calls i0) cv ax=.b' v aa
theorem Kz {o:Oper} (h:jl o.op=true):dU P o.op=true∧e_ o=false:=by
 obtain ⟨dst,op,type,pos,after,guard⟩:=o
 cases op<;>simp only [jl] at h<;>try (cases h;done)
 · rename_i c
   obtain ⟨callee,args,types⟩:=c
   cases callee<;>simp only at h<;>try (cases h;done)
   exact ⟨rfl,rfl⟩
 · exact ⟨rfl,rfl⟩
variable {an:Nat} {ops:Array Oper} {call:c4} {calls:Nat→c4} {es:List dS} {bx:bp} {a6:ae} {cv:bp} {ax:ae} {dE:List Nat} {order aA:List Nat} {N M:Nat} {lit:Bool}
theorem Cert.rQ (C:Cert P an ops calls es bx a6 cv ax dE order aA N M lit) {k bl:Nat} (U:k<ops.size) (ad:bl<ops.size) (he:posOf aA k=posOf aA bl):k=bl:=by
 have a:=(C.gp k U).2
 have b:=(C.gp bl ad).2
 rw [he,b] at a
 cases a
 rfl
theorem Hz {ops:Array Oper} {aA:List Nat} (ax:sE P ops aA=true):∀i o,ops[i]? =some o→∃ch,(dM [] ops.toList)[i]? =some ch∧jS i o=true∧
 ∀k ok,ops[k]? =some ok→∃mk,(dM [] ops.toList)[k]? =some mk∧lG i ch (bO ops o) o.dst k mk ok (Nat.blt (posOf aA k) (posOf aA i))=true∧(dU P o.op=true→dj P ok=true→posOf aA k<posOf aA i→eH ch k=true):=by
 intro i o aC
 unfold sE at ax
 obtain ⟨ch,U,ad⟩:=mL ax i o (by simpa using aC)
 simp only [Nat.zero_add,Bool.and_eq_true] at ad
 refine ⟨ch,U,ad.1,fun k ok az=>?_⟩
 obtain ⟨mk,b6,cz⟩:=mL ad.2 k ok (by simpa using az)
 simp only [Nat.zero_add,Bool.and_eq_true] at cz
 refine ⟨mk,b6,cz.1,fun aF aM aO=>?_⟩
 have fx:=cz.2
 rw [aF,aM,Bool.true_and,show Nat.blt (posOf aA k) (posOf aA i)=true from by rw [Nat.blt_eq];exact aO] at fx
 exact fx
theorem Cert.E5 (C:Cert P an ops calls es bx a6 cv ax dE order aA N M lit):∀p,p≤N→∀t,t≤top→
 (∃k o e,posOf aA k<p∧ops[k]? =some o∧o.dst=some t∧es[posOf aA k]? =some e∧T.get .bad (aG t) (dt es cv p)=e.v)∨
 ((∀k o,posOf aA k<p→ops[k]? =some o→o.dst≠some t)∧T.get .bad (aG t) (dt es cv p)=T.get .bad (aG t) bx)
 | 0,_,t,aB=>.inr ⟨fun k o h=>by omega,by rw [C.bx]⟩
 | p+1,aC,t,aB=>by
   obtain ⟨i,aO,hA⟩:=C.iN p (by have:=C.wg;omega)
   have b0:ops[i]? =some ops[i]:=Array.getElem?_eq_getElem aO
   obtain ⟨e,U,ad,aI⟩:=C.step i ops[i] b0 (by omega)
   rw [hA] at U ad aI
   have DI:dt es cv p=e.r:=by simp [dt,U]
   have db:=Ij (r:=e.r) (v:=e.v) (h2 ad).1 aB
   rw [aI,db]
   by_cases aV:ops[i].dst=some t
   · rw [if_pos aV]
     exact .inl ⟨i,_,e,by omega,b0,aV,by rw [hA];exact U,rfl⟩
   · rw [if_neg aV,←DI]
     rcases Cert.E5 C p (by omega) t aB with ⟨k,o,cN,ai,ay,aK,bE,dr⟩ | ⟨ai,ay⟩
     · exact .inl ⟨k,o,cN,by omega,ay,aK,bE,dr⟩
     · refine .inr ⟨fun k o az aP=>?_,ay⟩
       by_cases e':k=i
       · subst e';rw [b0] at aP;cases aP;exact aV
       · refine ai k o ?_ aP
         have mc:=(Array.getElem?_eq_some_iff.1 aP).1
         have:posOf aA k≠p:=fun e=>e' (C.rQ mc aO (by rw [e,hA]))
         omega
theorem Cert.Ce (C:Cert P an ops calls es bx a6 cv ax dE order aA N M lit):∀p,p≤N→T.get .bad dT (dt es cv p)=T.get .bad dT bx
 | 0,_=>by rw [C.bx]
 | p+1,aC=>by
   obtain ⟨i,aO,hA⟩:=C.iN p (by have:=C.wg;omega)
   have b0:ops[i]? =some ops[i]:=Array.getElem?_eq_getElem aO
   obtain ⟨e,U,ad,aI⟩:=C.step i ops[i] b0 (by omega)
   rw [hA] at U ad aI
   have DI:dt es cv p=e.r:=by simp [dt,U]
   have aV:=(h2 ad).1
   rw [aI,←Cert.Ce C p (by omega),DI]
   cases T7:ops[i].dst with
   | none=>rfl
   | some d=>
     rw [T7] at aV
     simp only [ed,Bool.and_eq_true,Nat.ble_eq] at aV
     simp only [ey]
     rw [T.gj,if_neg (rN aV.2)]
def nameAt (es:List dS) (ax:ae) (aA:List Nat) (k:Nat):aN:=aG (bT es ax (posOf aA k)).next
noncomputable def uQ (es:List dS) (ax:ae) (aA:List Nat) (k:Nat):bS:=(bT es ax (posOf aA k+1)).get (nameAt es ax aA k)
def Made (es:List dS) (ax:ae) (aA:List Nat) (k:Nat):Prop:=(bT es ax (posOf aA k+1)).next≠(bT es ax (posOf aA k)).next
def hM (ops:Array Oper) (es:List dS) (ax:ae) (aA:List Nat) (listed:Array Bool) (s k:Nat):Prop:=
 ∃o,ops[k]? =some o∧(e_ o=true∧Made es ax aA k)∧¬listed.getD k false=true∧posOf aA k<s
structure Holds (au F:Fr) (es:List dS) (ax:ae) (aA:List Nat) (D:Nat→Prop):Prop where
 w:F.w=au.w
 b2:∀b,(∀k,D k→nameAt es ax aA k≠b)→F.ep b=au.ep b
 new:∀k,D k→F.ep (nameAt es ax aA k)=some (uQ es ax aA k)∧au.ep (nameAt es ax aA k)=none
 inj:∀k bl,D k→D bl→nameAt es ax aA k=nameAt es ax aA bl→k=bl
theorem Holds.congr {au F:Fr} {D FU:Nat→Prop} (H:Holds au F es ax aA D) (h:∀k,FU k↔D k):Holds au F es ax aA FU:=
 ⟨H.w,fun b af=>H.b2 b fun k az=>af k ((h k).2 az),fun k az=>H.new k ((h k).1 az),fun k bl az fZ=>H.inj k bl ((h k).1 az) ((h bl).1 fZ)⟩
theorem Holds.none {au F:Fr} {D:Nat→Prop} (H:Holds au F es ax aA D) (h:∀k,¬D k):F=au:=by
 have:F.ep=au.ep:=funext fun b=>H.b2 b fun k az=>absurd az (h k)
 cases F;cases au
 have hw:=H.w
 simp only at this hw
 rw [this,hw]
theorem Cert.advance (C:Cert P an ops calls es bx a6 cv ax dE order aA N M lit) {au:Fr} {listed:Array Bool} {E:Env} {w:World}:∀(d q:Nat),q+d=N→(∀k o,ops[k]? =some o→e_ o=true→q≤posOf aA k→¬listed.getD k false=true)→
 ∀F,Holds au F es ax aA (hM ops es ax aA listed q)→aW F E (bT es ax q) w→
 ∃s de,s ∈ dE∧q≤s∧s≤N∧(∀k o,ops[k]? =some o→dj P o=true→q≤posOf aA k→s≤posOf aA k)∧Holds au de es ax aA (hM ops es ax aA listed s)∧aW de E (bT es ax s) w
 | 0,q,aE,_,F,H,S=>by
   have:q=N:=by omega
   subst this
   exact ⟨q,F,C.ends,Nat.le_refl _,Nat.le_refl _,fun k o _ _ h=>h,H,S⟩
 | d+1,q,aE,pF,F,H,S=>by
   obtain ⟨i,aO,hA⟩:=C.iN q (by have:=C.wg;omega)
   have b0:ops[i]? =some ops[i]:=Array.getElem?_eq_getElem aO
   cases jD:dj P ops[i] with
   | true=>exact ⟨q,F,by rw [←hA];exact C.mem i _ b0 jD,Nat.le_refl _,by omega,fun k o _ _ h=>h,H,S⟩
   | false=>
     obtain ⟨e,U,ad,aI⟩:=C.step i ops[i] b0 (by omega)
     rw [hA] at U ad
     have pC:bT es ax q=e.h:=by simp [bT,U]
     have only:∀k o,ops[k]? =some o→posOf aA k=q→k=i:=fun k o az ag=>C.rQ (Array.getElem?_eq_some_iff.1 az).1 aO (by rw [ag,hA])
     have fin:∀de,Holds au de es ax aA (hM ops es ax aA listed (q+1))→aW de E (bT es ax (q+1)) w→
      ∃s de,s ∈ dE∧q≤s∧s≤N∧(∀k o,ops[k]? =some o→dj P o=true→q≤posOf aA k→s≤posOf aA k)∧Holds au de es ax aA (hM ops es ax aA listed s)∧aW de E (bT es ax s) w:=by
      intro de hY No
      obtain ⟨s,Ao,g1,g2,g3,g4,g5,g6⟩:=Cert.advance C d (q+1) (by omega) (fun k o U ad aI=>pF k o U ad (by omega)) de hY No
      refine ⟨s,Ao,g1,by omega,g3,fun k o az aq ag=>g4 k o az aq ?_,g5,g6⟩
      by_cases yF:posOf aA k=q
      · have:=only k o az yF
        subst this
        rw [b0] at az;cases az
        rw [jD] at aq;cases aq
      · omega
     have pass:bT es ax (q+1)=e.h→(e_ ops[i]=true→¬Made es ax aA i)→∃s de,s ∈ dE∧q≤s∧s≤N∧(∀k o,ops[k]? =some o→dj P o=true→q≤posOf aA k→s≤posOf aA k)∧Holds au de es ax aA (hM ops es ax aA listed s)∧aW de E (bT es ax s) w:=by
      intro tj kg
      rw [←pC] at tj
      refine fin F (H.congr fun k=>⟨?_,?_⟩) (by rw [tj];exact S)
      · rintro ⟨o,ai,ay,aK,bE⟩
        refine ⟨o,ai,ay,aK,?_⟩
        have:posOf aA k≠q:=fun e=>by
         have:=only k o ai e
         subst this
         rw [b0] at ai;cases ai
         exact kg ay.1 ay.2
        omega
      · rintro ⟨o,ai,ay,aK,bE⟩
        exact ⟨o,ai,ay,aK,by omega⟩
     cases bm:e_ ops[i] with
     | true=>
      rcases Hw bm ad with ⟨cc,b6,cz⟩ | ⟨b6,_⟩
      ·
       have aR:=S.hold cc
       have a7:nameAt es ax aA i=aG (bT es ax q).next:=by unfold nameAt;rw [hA]
       have af:uQ es ax aA i=cc:=by
        unfold uQ
        rw [a7,hA,b6,pC,ae.gv,if_pos rfl]
       rw [pC,←b6] at aR
       have UH:Made es ax aA i:=by
        unfold Made
        rw [hA,b6,pC]
        exact Nat.succ_ne_self _
       have ng:¬listed.getD i false=true:=pF i _ b0 bm (by omega)
       have B5:∀k,hM ops es ax aA listed (q+1) k→k=i∨hM ops es ax aA listed q k:=by
        rintro k ⟨o,ai,ay,aK,bE⟩
        by_cases yF:posOf aA k=q
        · exact .inl (only k o ai yF)
        · exact .inr ⟨o,ai,ay,aK,by omega⟩
       have fresh:∀b tw,F.ep b=some tw→b≠nameAt es ax aA i:=by
        intro b tw na heq
        obtain ⟨_,_,j,vQ,rE⟩:=S.lH b tw na
        rw [heq,a7] at rE
        rw [pC] at vQ rE
        have:=gB rE
        omega
       have JH:∀b,b≠nameAt es ax aA i→(F.hold (aG e.h.next) cc).ep b=F.ep b:=by
        intro b IE
        rw [a7,pC] at IE
        simp only [Fr.hold,if_neg IE]
       have N7:(F.hold (aG e.h.next) cc).ep (nameAt es ax aA i)=some cc:=by
        rw [a7,pC]
        simp only [Fr.hold,if_true]
       have ne:∀k,hM ops es ax aA listed q k→nameAt es ax aA k≠nameAt es ax aA i:=fun k az=>fresh _ _ (H.new k az).1
       refine fin (F.hold (aG e.h.next) cc) ⟨H.w,fun b na=>?_,fun k az=>?_,fun k bl az fZ he=>?_⟩ aR
       · have q0:b≠nameAt es ax aA i:=fun e=>na i ⟨_,b0,⟨bm,UH⟩,ng,by omega⟩ e.symm
         rw [JH b q0]
         exact H.b2 b fun k az=>na k (by obtain ⟨o,ai,ay,aK,bE⟩:=az;exact ⟨o,ai,ay,aK,by omega⟩)
       · rcases B5 k az with rfl | az
         · refine ⟨by rw [N7,af],?_⟩
           cases ag:au.ep (nameAt es ax aA k) with
           | none=>rfl
           | some tw=>
             exfalso
             have:=H.b2 (nameAt es ax aA k) fun bl fZ=>ne bl fZ
             rw [ag] at this
             exact fresh _ _ this rfl
         · rw [JH _ (ne k az)]
           exact H.new k az
       · rcases B5 k az with rfl | az<;>rcases B5 bl fZ with rfl | fZ
         · rfl
         · exact absurd he.symm (ne bl fZ)
         · exact absurd he (ne k az)
         · exact H.inj k bl az fZ he
      · refine pass b6 fun _ hm=>hm ?_
        rw [hA,b6,pC]
     | false=>
       have c2:dU P ops[i].op=false:=by
        unfold dj at jD
        rw [bm] at jD
        simpa using jD
       exact pass (qL c2 ad).1 fun h=>by rw [bm] at h;cases h
structure mM (P:Program) (au:Fr) (an:Nat) (ops:Array Oper) (es:List dS) (bx:bp) (ax:ae) (dE aA:List Nat) (gf:Env) (N:Nat) (D:List Deferred) (listed:Array Bool) (a:Act) (w:World):Prop where
 oF:listed.size=ops.size
 size:a.tmps.size=an
 defers:a.defers=D
 pj:∀k,listed.getD k false=true→posOf aA k<N
 down:mO ops fun k=>listed.getD k false=true
 main:∃E s F,gf.le E∧s ∈ dE∧s≤N∧(∀k o,ops[k]? =some o→dj P o=true→(listed.getD k false=true↔posOf aA k<s))∧
  (∀k o,ops[k]? =some o→e_ o=true→listed.getD k false=true→posOf aA k<s)∧Holds au F es ax aA (hM ops es ax aA listed s)∧aW F E (bT es ax s) w∧
  ∀t,t≤top→(∃k o e,listed.getD k false=true∧ops[k]? =some o∧o.dst=some t∧es[posOf aA k]? =some e∧Rel E e.v (a.tmps.getD t undef))∨
   ((∀k o,listed.getD k false=true→ops[k]? =some o→o.dst≠some t)∧Rel E (T.get .bad (aG t) bx) (a.tmps.getD t undef))
theorem ps {l:Array Bool} {i:Nat}:l.getD i false=true↔l[i]? =some true:=by
 rw [Array.getD_eq_getD_getElem?]
 cases l[i]? with
 | none=>simp
 | some b=>cases b<;>simp
theorem eB {l:Array Bool} {i k:Nat} (aC:i<l.size):(l.setIfInBounds i true).getD k false=true↔(k=i∨l.getD k false=true):=by
 rw [ps,ps,Array.getElem?_setIfInBounds]
 by_cases h:i=k
 · subst h;simp [aC]
 · have:¬k=i:=fun e=>h e.symm
   simp [h,this]
theorem xZ {r:bp} {t:Nat} (aB:t≤top):∀{l:List Oper},T.get .bad (aG t) (lj r l)=.bad∨(T.get .bad (aG t) (lj r l)=T.get .bad (aG t) r∧∀o ∈ l,o.dst≠some t)
 | []=>.inr ⟨rfl,fun o aP=>by simp at aP⟩
 | o::os=>by
   simp only [lj]
   cases aV:o.dst with
   | none=>
     simp only
     rcases xZ (r:=r) aB (l:=os) with h | ⟨U,ad⟩
     · exact .inl h
     · exact .inr ⟨U,fun bR fQ=>by
        rcases List.mem_cons.1 fQ with rfl | fQ
        · rw [aV];simp
        · exact ad bR fQ⟩
   | some d=>
     simp only
     cases af:Nat.ble d top with
     | true=>
       simp only [cond_true]
       rw [T.gj]
       by_cases q4:d=t
       · subst q4;rw [if_pos rfl];exact .inl rfl
       · rw [if_neg (fun e=>q4 (gB e))]
         rcases xZ (r:=r) aB (l:=os) with h | ⟨U,ad⟩
         · exact .inl h
         · exact .inr ⟨U,fun bR fQ=>by
            rcases List.mem_cons.1 fQ with rfl | fQ
            · rw [aV];simpa using q4
            · exact ad bR fQ⟩
     | false=>
       simp only [cond_false]
       have q4:d≠t:=fun e=>by subst e;rw [←Nat.ble_eq] at aB;rw [aB] at af;cases af
       rcases xZ (r:=r) aB (l:=os) with h | ⟨U,ad⟩
       · exact .inl h
       · exact .inr ⟨U,fun bR fQ=>by
          rcases List.mem_cons.1 fQ with rfl | fQ
          · rw [aV];simpa using q4
          · exact ad bR fQ⟩
theorem xY {r:bp}:∀{l:List Oper},T.get .bad dT (lj r l)=T.get .bad dT r
 | []=>rfl
 | o::os=>by
   simp only [lj]
   cases aV:o.dst with
   | none=>exact xY
   | some d=>
     simp only
     cases af:Nat.ble d top with
     | true=>
       simp only [cond_true]
       rw [T.gj,if_neg (rN (Nat.le_of_ble_eq_true af))]
       exact xY
     | false=>exact xY
theorem HC {rd:Option Nat} {D:List Deferred} {au:Fr} (bt:dJ P) (cp:∀i,fe P (calls i)) (cZ:∀i,fp P (calls i)) (C:Cert P an ops calls es bx a6 cv ax dE order aA N M lit) {gf:Env} {listed:Array Bool} {a:Act} {w:World} (I:mM P au an ops es bx ax dE aA gf N D listed a w)
 {i:Nat} (aC:i ∈ Region.ready .any ops listed) (Up:posOf aA i<M) (ra:lit=true→∀o k ok,ops[i]? =some o→iE o=true→ops[k]? =some ok→iE ok=true→posOf aA k<posOf aA i→listed.getD k false=true) {Q:Exit→Act→World→Prop} {K:Act→World→Prop} (c9:∀bf ak,mM P au an ops es bx ax dE aA gf N D (listed.setIfInBounds i true) bf ak→K bf ak)
 (cP:∀ar bf ak x v aa,gf.le ar→N<ops.size→ops.size≤M→(∃i0 gK,ops[i0]? =some gK∧posOf aA i0=N∧(b8 P an ops gK).run (calls i0) cv ax=.b' v aa)→RegRel0 ar an (lj bx ops.toList) bf→bf.defers=D→Rel ar v x→aW au ar aa ak→Q (.panic (mD x)) bf ak):wpOpIn (bQ rd) 0 P ops Q i K a w:=by
 rw [mem_ready] at aC
 obtain ⟨E,s,F,jC,aR,yJ,jH,cT,hQ,ni,rp⟩:=I.main
 obtain ⟨pF,o,b0,q5⟩:=aC
 have ew:i<ops.size:=(Array.getElem?_eq_some_iff.1 b0).1
 have pG:¬listed.getD i false=true:=by
  rw [ps]
  intro h
  rw [Array.getD_eq_getD_getElem?,h] at pF
  simp at pF
 have I6:=v_ I.down ops.toList [] (fun j=>by simp) (fun k m j az=>by simp at az)
 have sX:mO ops fun k=>listed.getD k false=true∨k=i:=by
  intro k ok e az bg he af
  rcases az with az | rfl
  · exact .inl (I.down k ok e az bg he af)
  · rw [b0] at bg;cases bg
    exact .inl (q5 e (Array.mem_toList_iff.1 he) (by rw [sz];exact af))
 have UG:=v_ sX ops.toList [] (fun j=>by simp) (fun k m j az=>by simp at az)
 obtain ⟨ch,jI,gx,yE⟩:=C.j_ i o b0
 have yE:=yE Up
 have CH:=C.KH
 have vd:∀k,k≠i→eH ch k=true→listed.getD k false=true:=by
  intro k az af
  rcases UG i ch k jI af (.inr rfl) with h | h
  · exact h
  · exact absurd h az
 have h':=(C.gp i ew).1
 have UY:posOf aA i≤N:=by
  rcases Nat.lt_or_ge N (posOf aA i) with Ul | hle
  · exfalso
    have yi:ops.size≤M:=by
     rcases Nat.lt_or_ge M ops.size with h | h
     · have:=(C.tail h).1;omega
     · exact h
    obtain ⟨i0,gK,m0,ca,z2,z3,z4,z5,_⟩:=C.stop (by omega) yi
    have af:=z5 i o ch b0 Ul jI
    have U:=vd i0 (fun e=>by subst e;omega) af
    have:=I.pj i0 U
    omega
  · exact hle
 have uniq:∀(k bl:Nat) (ok ic:Oper) (t:Nat),ops[k]? =some ok→ops[bl]? =some ic→posOf aA k<M→posOf aA bl<M→ok.dst=some t→ic.dst=some t→k=bl:=by
  intro k bl ok ic t U ad bJ cg aI bq
  obtain ⟨mk,_,_,ag⟩:=C.j_ k ok U
  obtain ⟨mk',_,gl,_⟩:=ag bJ bl ic ad cg
  unfold lG at gl
  rw [fM] at gl
  by_cases hR:k=bl
  · exact hR
  · rw [if_neg hR,bq,aI] at gl
    simp at gl
 have LD:il (bO ops o)=true→∀t ∈ bO ops o,Rel E (T.get .bad (aG t) (dt es cv (posOf aA i))) (a.tmps.getD t undef):=by
  intro mr t aB
  have tn:t≤top:=by
   have:=List.all_eq_true.1 mr t aB
   exact Nat.le_of_ble_eq_true this
  have K3:∀(k:Nat) (ok:Oper),k≠i→posOf aA k<M→ops[k]? =some ok→ok.dst=some t→∃mk,(dM [] ops.toList)[k]? =some mk∧(posOf aA k<posOf aA i→eH ch k=true)∧(¬posOf aA k<posOf aA i→eH mk i=true):=by
   intro k ok az Dd bg aV
   obtain ⟨mk,ai,ay,_⟩:=yE k ok bg Dd
   refine ⟨mk,ai,?_⟩
   unfold lG at ay
   rw [fM,if_neg (fun e=>az e.symm),aV] at ay
   simp only [Bool.and_eq_true] at ay
   have aK:=ay.1
   rw [show (bO ops o).contains t=true from by simpa using aB] at aK
   simp only [cond_true] at aK
   refine ⟨fun aO=>?_,fun hy=>?_⟩
   · rw [show Nat.blt (posOf aA k) (posOf aA i)=true from by rw [Nat.blt_eq];exact aO] at aK
     exact aK
   · rw [show Nat.blt (posOf aA k) (posOf aA i)=false from by rw [←Bool.not_eq_true,Nat.blt_eq];exact hy] at aK
     exact aK
  rcases C.E5 (posOf aA i) UY t tn with ⟨k,ok,xT,ai,ay,aK,bE,dr⟩ | ⟨ai,ay⟩
  · obtain ⟨mk,_,cQ,_⟩:=K3 k ok (fun e=>by subst e;omega) (by omega) ay aK
    have UC:=vd k (fun e=>by subst e;omega) (cQ ai)
    rcases rp t tn with ⟨bl,ic,Ch,bY,b9,dZ,hG,mC⟩ | ⟨bY,_⟩
    · have:=uniq k bl ok ic t ay b9 (by omega) (by have:=I.pj bl bY;omega) aK dZ
      subst this
      rw [bE] at hG;cases hG
      rw [dr];exact mC
    · exact absurd aK (bY k ok UC ay)
  · rcases rp t tn with ⟨bl,ic,Ch,bY,b9,dZ,hG,mC⟩ | ⟨_,b9⟩
    · have e':bl≠i:=fun e=>pG (e ▸ bY)
      obtain ⟨mk,m1,_,cD⟩:=K3 bl ic e' (by have:=I.pj bl bY;omega) b9 dZ
      by_cases aO:posOf aA bl<posOf aA i
      · exact absurd dZ (ai bl ic aO b9)
      · exact absurd (I6 bl mk i m1 (cD aO) bY) pG
    · rw [ay];exact b9
 have level:dU P o.op=true→s≤posOf aA i→s=posOf aA i∧e_ o=false:=by
  intro iY hle
  rcases C.Mm s aR with (h | ⟨h,yh⟩) | ⟨k,ok,b6,cz,fx⟩
  · omega
  · omega
  · have Ja:¬listed.getD k false=true:=fun h=>by have:=(jH k ok b6 cz).1 h;omega
    have mc:=(Array.getElem?_eq_some_iff.1 b6).1
    by_cases e':k=i
    · subst e'
      rw [b0] at b6;cases b6
      refine ⟨fx,?_⟩
      unfold dj at cz
      simpa [iY] using cz
    · have aO:posOf aA k<posOf aA i:=by
       have:posOf aA k≠posOf aA i:=fun e=>e' (C.rQ mc ew e)
       omega
      obtain ⟨mk,_,_,aK⟩:=yE k ok b6 (by omega)
      rcases aK iY cz aO with h | ⟨g1,g2,g3⟩
      · exact absurd (vd k e' h) Ja
      · exact absurd (ra g1 o k ok b0 g2 b6 g3 aO) Ja
 rcases Nat.lt_or_ge (posOf aA i) N with Dp | adk
 case inr=>
  have h9:posOf aA i=N:=by omega
  have yi:ops.size≤M:=by
   rcases Nat.lt_or_ge M ops.size with h | h
   · have:=(C.tail h).1;omega
   · exact h
  obtain ⟨i0,gK,m0,ca,z2,z3,z4,z5,acJ,v,aa,FN⟩:=C.stop (by omega) yi
  have Ur:i0=i:=C.rQ (Array.getElem?_eq_some_iff.1 ca).1 ew (by rw [z2,h9])
  subst Ur
  rw [b0] at ca;cases ca
  rw [jI] at z4;cases z4
  obtain ⟨iY,UN⟩:=Kz z3
  have s4:dj P o=true:=by unfold dj;rw [iY,UN];rfl
  have DQ:s≤posOf aA i0:=by
   rcases Nat.lt_or_ge (posOf aA i0) s with h | h
   · exact absurd ((jH i0 o b0 s4).2 h) pG
   · exact h
  have tk:=(level iY DQ).1
  have kb:F=au:=hQ.none fun k az=>by
   obtain ⟨ok,ai,ay,aK,bE⟩:=az
   have e':k≠i0:=fun e=>by subst e;omega
   exact aK (vd k e' (acJ k ok ai ay.1 (by omega)))
  subst kb
  have cU:es[N]? =none:=List.getElem?_eq_none (by rw [C.len];exact Nat.le_refl _)
  have h_:=LD (Hu FN).2
  rw [h9] at h_
  simp only [dt,cU] at h_
  rw [tk,h9] at ni
  simp only [bT,cU] at ni
  refine R6 bt (cp i0) (cZ i0) b0 FN z3 I.size h_ ni fun ar x ak ai ay aK=>cP ar a ak x v aa (jC.trans ai) (by omega) yi ⟨i0,o,b0,h9,FN⟩ ⟨I.size,fun t aB=>?_⟩ I.defers ay aK
  rcases xZ (r:=bx) aB (l:=ops.toList) with h | ⟨U,ad⟩
  · rw [h];simp [Rel]
  · rw [U]
    rcases rp t aB with ⟨k,ok,xT,bY,b9,dZ,hG,mC⟩ | ⟨bY,b9⟩
    · exact absurd dZ (ad ok (by rw [←Array.getElem?_toList] at b9;exact List.mem_of_getElem? b9))
    · exact Rel.mono ai _ _ b9
 obtain ⟨e,lo,cu,adt⟩:=C.step i o b0 Dp
 have fE:=h2 cu
 have ek:dt es cv (posOf aA i)=e.r:=by simp [dt,lo]
 have hz:bT es ax (posOf aA i)=e.h:=by simp [bT,lo]
 have reads:=LD fE.2
 rw [ek] at reads
 have eR:i<listed.size:=by rw [I.oF];exact ew
 have after:∀(fK:Nat) (de:Fr) (ar:Env) (x:Value) (ak:World),fK ∈ dE→fK≤N→(∀k ok,ops[k]? =some ok→dj P ok=true→((k=i∨listed.getD k false=true)↔posOf aA k<fK))→
  (∀k ok,ops[k]? =some ok→e_ ok=true→(k=i∨listed.getD k false=true)→posOf aA k<fK)→
  Holds au de es ax aA (hM ops es ax aA (listed.setIfInBounds i true) fK)→E.le ar→Rel ar e.v x→aW de ar (bT es ax fK) ak→
  mM P au an ops es bx ax dE aA gf N D (listed.setIfInBounds i true) (a.put o.dst x) ak:=by
  intro fK de ar x ak hg Vg en TO Um hle ao Ve
  refine ⟨by simp [I.oF],by cases h:o.dst<;>simp [Act.put,I.size],by cases h:o.dst<;>simp [Act.put,I.defers],fun k az=>by
   rcases (eB eR).1 az with rfl | az
   · exact Dp
   · exact I.pj k az,?_,ar,fK,de,jC.trans hle,hg,Vg,fun k ok U ad=>by rw [eB eR];exact en k ok U ad,
   fun k ok U ad aI=>TO k ok U ad ((eB eR).1 aI),Um,Ve,fun t aB=>?_⟩
  · intro k ok cN az bg dx af
    rw [eB eR] at az ⊢
    rcases sX k ok cN az.symm bg dx af with h | h
    · exact .inr h
    · exact .inl h
  · by_cases aV:o.dst=some t
    · refine .inl ⟨i,o,e,by rw [eB eR];exact .inl rfl,b0,aV,lo,?_⟩
      have aO:t<a.tmps.size:=by
       have:=fE.1
       rw [aV] at this
       simp only [ed,Bool.and_eq_true,Nat.blt_eq] at this
       rw [I.size];exact this.1
      rw [aV]
      simp only [Act.put]
      rw [Array.getD_eq_getD_getElem?,Array.getElem?_setIfInBounds,if_pos rfl,if_pos aO]
      exact ao
    · have db:(a.put o.dst x).tmps.getD t undef=a.tmps.getD t undef:=by
       cases US:o.dst with
       | none=>rfl
       | some d=>
         simp only [Act.put]
         rw [Array.getD_eq_getD_getElem?,Array.getD_eq_getD_getElem?,Array.getElem?_setIfInBounds,if_neg (fun e=>aV (by rw [US,e]))]
      rw [db]
      rcases rp t aB with ⟨k,ok,xT,bY,b9,dZ,hG,mC⟩ | ⟨bY,b9⟩
      · exact .inl ⟨k,ok,xT,by rw [eB eR];exact .inr bY,b9,dZ,hG,Rel.mono hle _ _ mC⟩
      · refine .inr ⟨fun k ok az bg=>?_,Rel.mono hle _ _ b9⟩
        rw [eB eR] at az
        rcases az with rfl | az
        · rw [b0] at bg;cases bg;exact aV
        · exact bY k ok az bg
 have CZ:¬(e_ o=true∧Made es ax aA i)→∀fK k,hM ops es ax aA (listed.setIfInBounds i true) fK k↔hM ops es ax aA listed fK k:=by
  intro bm fK k
  constructor
  · rintro ⟨ok,ai,ay,aK,bE⟩
    exact ⟨ok,ai,ay,fun h=>aK ((eB eR).2 (.inr h)),bE⟩
  · rintro ⟨ok,ai,ay,aK,bE⟩
    refine ⟨ok,ai,ay,fun h=>?_,bE⟩
    rcases (eB eR).1 h with rfl | h
    · rw [b0] at ai;cases ai;exact bm ay
    · exact aK h
 cases iY:dU P o.op with
 | true=>
   cases bm:e_ o with
   | true=>
     have aO:posOf aA i<s:=by
      rcases Nat.lt_or_ge (posOf aA i) s with h | h
      · exact h
      · have:=(level iY h).2
        rw [bm] at this;cases this
     by_cases hm:Made es ax aA i
     case neg=>
      have DM:(b8 P an ops o).run (calls i) e.r (bT es ax s)=.val e.v (bT es ax s):=by
       rcases Hw bm cu with ⟨cc,b6,_⟩ | ⟨_,b6⟩
       · exact absurd (show Made es ax aA i from by unfold Made;rw [b6,hz];exact Nat.succ_ne_self _) hm
       · exact b6 _
      refine mU bt (cp i) (cZ i) b0 DM I.size reads ni fun ar x ak ai ay aK=>c9 _ _ (after s F ar x ak aR yJ (fun k ok bg hf=>?_) (fun k ok bg mb az=>?_) (hQ.congr fun k=>CZ (fun h=>hm h.2) s k) ai ay aK)
      · constructor
        · rintro (rfl | h)
          · rw [b0] at bg;cases bg
            unfold dj at hf
            rw [bm] at hf
            simp at hf
          · exact (jH k ok bg hf).1 h
        · intro h
          exact .inr ((jH k ok bg hf).2 h)
      · rcases az with rfl | az
        · exact aO
        · exact cT k ok bg mb az
     have iA:hM ops es ax aA listed s i:=⟨o,b0,⟨bm,hm⟩,pG,aO⟩
     have Dr:(bT es ax (posOf aA i+1)).next≠e.h.next:=by rw [←hz];exact hm
     have kg:nameAt es ax aA i=aG e.h.next:=by unfold nameAt;rw [hz]
     have jL:=(hQ.new i iA).1
     have tr:=(hQ.new i iA).2
     have iC:uQ es ax aA i=(bT es ax (posOf aA i+1)).get (aG e.h.next):=by unfold uQ;rw [kg]
     rw [kg,iC] at jL
     refine R4 b0 bm cu I.size reads ni Dr jL fun ar x ak ai ay aK=>c9 _ _ (after s (F.free (aG e.h.next)) ar x ak aR yJ (fun k ok bg hf=>?_) (fun k ok bg mb az=>?_) ?_ ai ay aK)
     · constructor
       · rintro (rfl | h)
         · rw [b0] at bg;cases bg
           unfold dj at hf
           rw [bm] at hf
           simp at hf
         · exact (jH k ok bg hf).1 h
       · intro h
         exact .inr ((jH k ok bg hf).2 h)
     · rcases az with rfl | az
       · exact aO
       · exact cT k ok bg mb az
     · have sub:∀k,hM ops es ax aA (listed.setIfInBounds i true) s k→hM ops es ax aA listed s k∧k≠i:=by
        rintro k ⟨ok,ai,ay,aK,bE⟩
        refine ⟨⟨ok,ai,ay,fun h=>aK ((eB eR).2 (.inr h)),bE⟩,fun e=>aK ((eB eR).2 (.inl e))⟩
       refine ⟨hQ.w,fun b af=>?_,fun k az=>?_,fun k bl az fZ=>hQ.inj k bl (sub k az).1 (sub bl fZ).1⟩
       · by_cases q0:b=aG e.h.next
         · subst q0
           simp only [Fr.free,if_true]
           rw [←kg,tr]
         · simp only [Fr.free,if_neg q0]
           refine hQ.b2 b fun k az=>?_
           by_cases e':k=i
           · subst e';rw [kg];exact fun e=>q0 e.symm
           · obtain ⟨ok,ai,ay,aK,bE⟩:=az
             refine af k ⟨ok,ai,ay,fun h=>?_,bE⟩
             rcases (eB eR).1 h with h | h
             · exact e' h
             · exact aK h
       · obtain ⟨s8,e'⟩:=sub k az
         have c2:nameAt es ax aA k≠aG e.h.next:=fun e=>e' (hQ.inj k i s8 iA (by rw [e,kg]))
         simp only [Fr.free,if_neg c2]
         exact hQ.new k s8
   | false=>
     have s4:dj P o=true:=by unfold dj;rw [iY,bm];rfl
     have DQ:s≤posOf aA i:=by
      rcases Nat.lt_or_ge (posOf aA i) s with h | h
      · exact absurd ((jH i o b0 s4).2 h) pG
      · exact h
     have tk:=(level iY DQ).1
     rw [←hz,←tk] at cu
     refine mU bt (cp i) (cZ i) b0 cu I.size reads ni fun ar x ak ai ay aK=>?_
     rw [tk] at aK
     have UB:∀k ok,ops[k]? =some ok→e_ ok=true→posOf aA i+1≤posOf aA k→¬(listed.setIfInBounds i true).getD k false=true:=by
      intro k ok bg mb ag h
      rcases (eB eR).1 h with rfl | h
      · omega
      · have:=cT k ok bg mb h
        omega
     have Uo:Holds au F es ax aA (hM ops es ax aA (listed.setIfInBounds i true) (posOf aA i+1)):=by
      refine hQ.congr fun k=>?_
      rw [CZ (fun h=>by rw [bm] at h;cases h.1)]
      constructor
      · rintro ⟨ok,ca,z2,z3,z4⟩
        refine ⟨ok,ca,z2,z3,?_⟩
        have mc:=(Array.getElem?_eq_some_iff.1 ca).1
        have:posOf aA k≠posOf aA i:=fun e=>by
         have:=C.rQ mc ew e
         subst this
         rw [b0] at ca;cases ca
         rw [bm] at z2;cases z2.1
        omega
      · rintro ⟨ok,ca,z2,z3,z4⟩
        exact ⟨ok,ca,z2,z3,by omega⟩
     obtain ⟨fK,de,g1,g2,g3,g4,g5,g6⟩:=C.advance (N - (posOf aA i+1)) (posOf aA i+1) (by omega) UB F Uo aK
     refine c9 _ _ (after fK de ar x ak g1 g3 (fun k ok bg hf=>?_) (fun k ok bg mb az=>?_) g5 ai ay g6)
     · have mc:=(Array.getElem?_eq_some_iff.1 bg).1
       constructor
       · rintro (rfl | h)
         · omega
         · have:=(jH k ok bg hf).1 h
           omega
       · intro h
         by_cases e':k=i
         · exact .inl e'
         · refine .inr ((jH k ok bg hf).2 ?_)
           rcases Nat.lt_or_ge (posOf aA k) s with a8 | a8
           · exact a8
           · have c2:posOf aA k≠posOf aA i:=fun e=>e' (C.rQ mc ew e)
             have:=g4 k ok bg hf (by omega)
             omega
     · rcases az with rfl | az
       · omega
       · have:=cT k ok bg mb az
         omega
 | false=>
   have bm:e_ o=false:=by
    cases h:e_ o with
    | false=>rfl
    | true=>rw [V0 h] at iY;cases iY
   obtain ⟨c,aq,DM⟩:∃c,(fe P c∧fp P c)∧(b8 P an ops o).run c e.r (bT es ax s)=.val e.v (bT es ax s):=by
    cases dL:looks o.op with
    | false=>exact ⟨_,⟨cp i,cZ i⟩,(qL iY cu).2 dL _⟩
    | true=>
      obtain ⟨cN,ai,ay⟩:=C.ask i o b0 dL iY Dp
      rw [lo] at ai;cases ai
      obtain ⟨c,aa,aq,aK⟩:=ay s aR (FO (by rw [En];simp) fun k mk ok U ad=>by
       simp only [Nat.zero_add]
       have bg:ops[k]? =some ok:=by simpa using ad
       cases rb:dj P ok with
       | false=>rfl
       | true=>
         simp only [cond_true]
         cases me:Nat.blt (posOf aA k) s with
         | true=>
           rw [Nat.blt_eq] at me
           simp only [cond_true,Bool.not_eq_true']
           cases af:eH mk i with
           | false=>rfl
           | true=>exact absurd (I6 k mk i U af ((jH k ok bg rb).2 me)) pG
         | false=>
           have Uy:¬posOf aA k<s:=by rw [←Nat.blt_eq,me];simp
           simp only [cond_false,Bool.not_eq_true',jI,Option.getD_some]
           cases af:eH ch k with
           | false=>rfl
           | true=>
             by_cases e':k=i
             · subst e'
               rw [b0] at bg;cases bg
               unfold dj at rb
               rw [iY] at rb;cases rb
             · exact absurd ((jH k ok bg rb).1 (vd k e' af)) Uy)
      rw [(qL iY aK).1] at aK
      exact ⟨c,aq,aK⟩
   refine mU bt aq.1 aq.2 b0 DM I.size reads ni fun ar x ak ai ay aK=>c9 _ _ (after s F ar x ak aR yJ (fun k ok bg hf=>?_) (fun k ok bg mb az=>?_) (hQ.congr fun k=>CZ (fun h=>by rw [bm] at h;cases h.1) s k) ai ay aK)
   · constructor
     · rintro (rfl | h)
       · rw [b0] at bg;cases bg
         unfold dj at hf
         rw [iY] at hf;cases hf
       · exact (jH k ok bg hf).1 h
     · intro h
       exact .inr ((jH k ok bg hf).2 h)
   · rcases az with rfl | az
     · rw [b0] at bg;cases bg;rw [bm] at mb;cases mb
     · exact cT k ok bg mb az
theorem Ht {D:List Deferred} {au:Fr} (C:Cert P an ops calls es bx a6 cv ax dE order aA N M lit) {gf:Env} (CH:N≤M) {listed:Array Bool} {a:Act} {w:World} (I:mM P au an ops es bx ax dE aA gf N D listed a w)
 (cT:∀k,k<ops.size→posOf aA k<N→listed.getD k false=true):∃ar,gf.le ar∧RegRel0 ar an cv a∧a.defers=D∧aW au ar ax w:=by
 obtain ⟨E,s,F,jC,aR,yJ,jH,_,hQ,ni,rp⟩:=I.main
 have cU:es[N]? =none:=List.getElem?_eq_none (by rw [C.len];exact Nat.le_refl _)
 have q9:bT es ax N=ax:=by simp [bT,cU]
 have Jk:dt es cv N=cv:=by simp [dt,cU]
 have tk:s=N:=by
  rcases C.Mm s aR with (h | ⟨h,_⟩) | ⟨k,ok,b6,cz,fx⟩
  · have:=C.wg;omega
  · exact h
  · rcases Nat.lt_or_ge s N with aO | hy
    · have:=(jH k ok b6 cz).1 (cT k (Array.getElem?_eq_some_iff.1 b6).1 (by omega))
      omega
    · omega
 subst tk
 have kb:F=au:=hQ.none fun k az=>by
  obtain ⟨ok,ai,ay,aK,bE⟩:=az
  exact aK (cT k (Array.getElem?_eq_some_iff.1 ai).1 bE)
 subst kb
 rw [q9] at ni
 have yh:∀k,posOf aA k<s→posOf aA k<M:=fun k h=>by omega
 refine ⟨E,jC,⟨I.size,fun t aB=>?_⟩,I.defers,ni⟩
 have Vp:∀(k bl:Nat) (ok ic:Oper),ops[k]? =some ok→ops[bl]? =some ic→posOf aA k<s→posOf aA bl<s→ok.dst=some t→ic.dst=some t→k=bl:=by
  intro k bl ok ic U ad bJ cg aI bq
  obtain ⟨mk,_,_,ag⟩:=C.j_ k ok U
  obtain ⟨mk',_,gl,_⟩:=ag (yh k bJ) bl ic ad (yh bl cg)
  unfold lG at gl
  rw [fM] at gl
  by_cases hR:k=bl
  · exact hR
  · rw [if_neg hR,bq,aI] at gl
    simp at gl
 rcases C.E5 s (Nat.le_refl _) t aB with ⟨k,ok,xT,ai,ay,aK,bE,dr⟩ | ⟨ai,ay⟩
 · rw [Jk] at dr
   rcases rp t aB with ⟨bl,ic,Ch,bY,b9,dZ,hG,mC⟩ | ⟨bY,_⟩
   · have:=Vp k bl ok ic ay b9 ai (I.pj bl bY) aK dZ
     subst this
     rw [bE] at hG;cases hG
     rw [dr];exact mC
   · exact absurd aK (bY k ok (cT k (Array.getElem?_eq_some_iff.1 ay).1 ai) ay)
 · rw [Jk] at ay
   rcases rp t aB with ⟨bl,ic,Ch,bY,b9,dZ,hG,mC⟩ | ⟨_,b9⟩
   · exact absurd dZ (ai bl ic (I.pj bl bY) b9)
   · rw [ay];exact b9
theorem HB {rd:Option Nat} {D:List Deferred} {au:Fr} (bt:dJ P) (cp:∀i,fe P (calls i)) (cZ:∀i,fp P (calls i)) (C:Cert P an ops calls es bx a6 cv ax dE order aA N M false) {gf:Env} {Q:Exit→Act→World→Prop}
 (cP:N=ops.size→∀ar bf ak,gf.le ar→RegRel0 ar an cv bf→bf.defers=D→aW au ar ax ak→Q .normal bf ak)
 (fh:∀ar bf ak x v aa,gf.le ar→N<ops.size→ops.size≤M→(∃i0 gK,ops[i0]? =some gK∧posOf aA i0=N∧(b8 P an ops gK).run (calls i0) cv ax=.b' v aa)→RegRel0 ar an (lj bx ops.toList) bf→bf.defers=D→Rel ar v x→aW au ar aa ak→Q (.panic (mD x)) bf ak)
 (dw:M<ops.size→∀(fuel:Nat) (listed:Array Bool) ar bf ak,(List.range ops.size).countP (fun i=>!listed.getD i false)≤fuel→listed.size=ops.size→mO ops (fun k=>listed.getD k false=true)→(∀k,k<ops.size→(listed.getD k false=true↔posOf aA k<N))→
   gf.le ar→RegRel0 ar an cv bf→bf.defers=D→aW au ar ax ak→wpAnyIn (bQ rd) 0 P .any ops Q fuel listed bf ak):∀(fuel:Nat) (listed:Array Bool) (a:Act) (w:World),(List.range ops.size).countP (fun i=>!listed.getD i false)≤fuel→
 mM P au an ops es bx ax dE aA gf N D listed a w→wpAnyIn (bQ rd) 0 P .any ops Q fuel listed a w:=by
 have done:∀(listed:Array Bool) (a:Act) (w:World),mM P au an ops es bx ax dE aA gf N D listed a w→Region.ready .any ops listed=[]→∀i,i<ops.size→listed.getD i false=true:=by
  intro listed a w I aH i
  induction i using Nat.strongRecOn with
  | _ i bh=>
    intro aC
    cases eR:listed.getD i false with
    | true=>rfl
    | false=>
      exfalso
      have b0:ops[i]? =some ops[i]:=Array.getElem?_eq_getElem aC
      obtain ⟨ch,_,gx,_⟩:=C.j_ i _ b0
      have:i ∈ Region.ready .any ops listed:=by
       rw [mem_ready]
       refine ⟨?_,ops[i],b0,fun e he af=>?_⟩
       · have b4:i<listed.size:=by rw [I.oF];exact aC
         rw [Array.getD_eq_getD_getElem?,Array.getElem?_eq_getElem b4] at eR ⊢
         exact eR
       · have U:=List.all_eq_true.1 gx e (Array.mem_toList_iff.2 he)
         rw [sz] at af
         rw [af] at U
         simp only [Bool.not_true,Bool.false_or,Nat.blt_eq] at U
         exact bh e.on U (by omega)
      rw [aH] at this
      simp at this
 have CH:=C.KH
 have full:∀(listed:Array Bool) (a:Act) (w:World),mM P au an ops es bx ax dE aA gf N D listed a w→(∀k,k<ops.size→posOf aA k<N→listed.getD k false=true)→(N=ops.size∨(M<ops.size∧M=N))→
  ∃ar,gf.le ar∧RegRel0 ar an cv a∧a.defers=D∧aW au ar ax w:=fun _ _ _ I cT _=>Ht C CH I cT
 have finish:∀(listed:Array Bool) (a:Act) (w:World),mM P au an ops es bx ax dE aA gf N D listed a w→Region.ready .any ops listed=[]→Q .normal a w:=by
  intro listed a w I aH
  have cT:=done listed a w I aH
  have CI:N=ops.size:=by
   rcases Nat.lt_or_ge N ops.size with aO | hy
   · exfalso
     obtain ⟨i,pD,jF⟩:=C.iN N aO
     have:=I.pj i (cT i pD)
     omega
   · exact Nat.le_antisymm C.wg hy
  obtain ⟨ar,g1,g2,g3,g4⟩:=full listed a w I (fun k az _=>cT k az) (.inl CI)
  exact cP CI ar a w g1 g2 g3 g4
 intro fuel
 induction fuel with
 | zero=>
   intro listed a w aq I
   have cT:∀i,i<ops.size→listed.getD i false=true:=by
    intro i aC
    have a6:(List.range ops.size).countP (fun i=>!listed.getD i false)=0:=by omega
    rw [List.countP_eq_zero] at a6
    simpa using a6 i (List.mem_range.2 aC)
   have aH:Region.ready .any ops listed=[]:=by
    cases aE:Region.ready .any ops listed with
    | nil=>rfl
    | cons j V7=>
      exfalso
      have bG:j ∈ Region.ready .any ops listed:=by rw [aE];simp
      rw [mem_ready] at bG
      obtain ⟨U,o,ad,_⟩:=bG
      have:=cT j (Array.getElem?_eq_some_iff.1 ad).1
      rw [ps] at this
      rw [Array.getD_eq_getD_getElem?,this] at U
      simp at U
   exact ⟨aH,finish listed a w I aH⟩
 | succ fuel bh=>
   intro listed a w aq I
   by_cases yK:M<ops.size∧∀k,k<ops.size→posOf aA k<N→listed.getD k false=true
   · obtain ⟨qZ,cT⟩:=yK
     obtain ⟨ar,g1,g2,g3,g4⟩:=full listed a w I cT (.inr ⟨qZ,(C.tail qZ).1⟩)
     exact dw qZ (fuel+1) listed ar a w aq I.oF I.down (fun k az=>⟨I.pj k,cT k az⟩) g1 g2 g3 g4
   have vA:∀i,i ∈ Region.ready .any ops listed→posOf aA i<M:=by
    intro i aC
    have jF:=aC
    rw [mem_ready] at jF
    obtain ⟨U,o,ad,q5⟩:=jF
    have ew:i<ops.size:=(Array.getElem?_eq_some_iff.1 ad).1
    rcases Nat.lt_or_ge M ops.size with qZ | qZ
    · obtain ⟨yh,tl⟩:=C.tail qZ
      rcases Nat.lt_or_ge (posOf aA i) N with aO | hy
      · omega
      · exfalso
        refine yK ⟨qZ,fun k az De=>?_⟩
        obtain ⟨ch,jI,_⟩:=C.j_ i o ad
        have af:=tl i o ch ad hy jI k az De
        have sX:mO ops fun k=>listed.getD k false=true∨k=i:=by
         intro k ok e az bg he af
         rcases az with az | rfl
         · exact .inl (I.down k ok e az bg he af)
         · rw [ad] at bg;cases bg
           exact .inl (q5 e (Array.mem_toList_iff.1 he) (by rw [sz];exact af))
        rcases v_ sX ops.toList [] (fun j=>by simp) (fun k m j az=>by simp at az) i ch k jI af (.inr rfl) with h | h
        · exact h
        · subst h;omega
    · have:=(C.gp i ew).1
      omega
   refine ⟨fun aH=>finish listed a w I aH,fun i aC=>?_⟩
   refine HC bt cp cZ C I aC (vA i aC) (fun h=>by cases h) (fun bf ak Aw=>bh _ bf ak ?_ Aw) fh
   have jF:=aC
   rw [mem_ready] at jF
   obtain ⟨U,o,ad,_⟩:=jF
   have ew:i<ops.size:=(Array.getElem?_eq_some_iff.1 ad).1
   have eR:i<listed.size:=by rw [I.oF];exact ew
   have pG:listed.getD i false=false:=by
    rw [Array.getD_eq_getD_getElem?,Array.getElem?_eq_getElem eR] at U ⊢
    exact U
   have:=xO (fun k=>!listed.getD k false) (fun k=>!(listed.setIfInBounds i true).getD k false) (List.range ops.size)
    (fun k _ az=>by
      simp only [Bool.not_eq_true'] at az ⊢
      cases aE:listed.getD k false with
      | false=>rfl
      | true=>
        have:=(eB (k:=k) eR).2 (.inr aE)
        rw [az] at this
        cases this)
    ⟨i,List.mem_range.2 ew,by simp [pG],by
      have:=(eB (k:=i) eR).2 (.inl rfl)
      simp [this]⟩
   omega
theorem ae.set_comm (h:ae) {b bz:aN} (c2:b≠bz) (k bl:bS):(h.set b k).set bz bl=(h.set bz bl).set b k:=by
 unfold ae.set
 simp only
 rw [T.put_comm _ _ _ _ _ _ (fun e=>c2 e.symm)]
theorem Ft {o:Oper} {x:Operand} (h:oV o=some x):∃t y,o.op=.store t x y∧o.dst=none∧o.guard=none:=by
 unfold oV at h
 split at h
 case h_2=>cases h
 rename_i t MR y aP
 split at h
 case h_2=>cases h
 rename_i aV
 split at h
 case h_2=>cases h
 rename_i aD
 cases h
 exact ⟨t,y,aP,aV,aD⟩
theorem X6 {h aa:ae} {b:aN} {off:Nat} {ab:List V} (he:lay h b off ab=some aa):∃k,aa=h.set b k∧∀H:ae,H.get b=h.get b→lay H b off ab=some (H.set b k):=by
 unfold lay at he ⊢
 cases aD:h.get b<;>rw [aD] at he<;>simp only [bS.on] at he<;>try (cases he;done)
 obtain ⟨aq,U⟩:=dG he
 cases U
 refine ⟨_,rfl,fun H iA=>?_⟩
 rw [iA]
 simp only [bS.on,aq,cond_true]
theorem Hy {all:Array Oper} {o:Oper} {x:Operand} {call:c4} {r:bp} {h aa:ae} {v:V} (ao:oV o=some x) (he:(b8 P an all o).run call r h=.val v aa):
 ∃b off k,(bA x).run (cX r (bO all o))=.ptr b off∧aa=h.set b k∧∀H:ae,H.get b=h.get b→(b8 P an all o).run call r H=.val v (H.set b k):=by
 obtain ⟨t,y,aP,aV,aD⟩:=Ft ao
 obtain ⟨U,ad⟩:=h2 he
 have key:b8 P an all o=⟨gR none (eb P o) (bO all o)⟩:=by
  unfold b8
  rw [show (ed an o.dst&&il (bO all o))=true from by rw [U,ad];rfl,aD]
  rfl
 rw [key] at he ⊢
 simp only [gR] at he ⊢
 have q2:∀H,(eb P o).run call (cX r (bO all o)) H=fW .bad ((oU P t).run H ((bA x).run (cX r (bO all o))) ((bA y).run (cX r (bO all o)))):=by
  intro H
  unfold eb
  rw [aP]
 rw [q2] at he
 cases aR:(oU P t).run h ((bA x).run (cX r (bO all o))) ((bA y).run (cX r (bO all o))) with
 | none=>rw [aR] at he;cases he
 | some aI=>
   rw [aR] at he
   simp only [fW,aT.val.injEq] at he
   obtain ⟨rfl,rfl⟩:=he
   unfold oU at aR
   cases aB:aX P t with
   | none=>rw [aB] at aR;cases aR
   | some aL=>
     rw [aB] at aR
     simp only [r1] at aR
     obtain ⟨b,off,ag,bq⟩:=tN aR
     obtain ⟨aq,ct⟩:=dG bq
     obtain ⟨k,b6,cz⟩:=X6 ct
     refine ⟨b,off,k,ag,b6,fun H iA=>?_⟩
     rw [q2]
     unfold oU
     rw [aB]
     simp only [r1,ag,V.hl,aq,cond_true,cz H iA,fW]
theorem tY {listed:Array Bool} (gx:∀i o,ops[i]? =some o→jS i o=true) (b4:listed.size=ops.size) (aH:Region.ready .any ops listed=[]):∀i,i<ops.size→listed.getD i false=true:=by
 intro i
 induction i using Nat.strongRecOn with
 | _ i bh=>
   intro aC
   cases eR:listed.getD i false with
   | true=>rfl
   | false=>
     exfalso
     have b0:ops[i]? =some ops[i]:=Array.getElem?_eq_getElem aC
     have gx:=gx i _ b0
     have:i ∈ Region.ready .any ops listed:=by
      rw [mem_ready]
      refine ⟨?_,ops[i],b0,fun e he af=>?_⟩
      · have aR:i<listed.size:=by rw [b4];exact aC
        rw [Array.getD_eq_getD_getElem?,Array.getElem?_eq_getElem aR] at eR ⊢
        exact eR
      · have U:=List.all_eq_true.1 gx e (Array.mem_toList_iff.2 he)
        rw [sz] at af
        rw [af] at U
        simp only [Bool.not_true,Bool.false_or,Nat.blt_eq] at U
        exact bh e.on U (by omega)
     rw [aH] at this
     simp at this
theorem rU {listed:Array Bool} {i:Nat} (acT:listed.size=ops.size) (aC:i ∈ Region.ready .any ops listed):i<ops.size∧¬listed.getD i false=true:=by
 rw [mem_ready] at aC
 obtain ⟨U,o,ad,_⟩:=aC
 refine ⟨(Array.getElem?_eq_some_iff.1 ad).1,fun h=>?_⟩
 rw [ps] at h
 rw [Array.getD_eq_getD_getElem?,h] at U
 simp at U
theorem Fx {rd:Option Nat} {au:Fr} (bt:dJ P) (cp:fe P call) (cZ:fp P call) (gx:∀i o,ops[i]? =some o→jS i o=true) {i:Nat} {o:Oper} (b0:ops[i]? =some o) (aV:o.dst=none) {r:bp} {h aa:ae} {v:V}
 (he:(b8 P an ops o).run call r h=.val v aa) {Q:Exit→Act→World→Prop} {E:Env} {a:Act} {w:World} (k:ei E an r a) (s:aW au E h w) (cP:∀ar ak,E.le ar→aW au ar aa ak→Q .normal a ak)
 {listed:Array Bool} (b4:listed.size=ops.size) (cT:∀j,j<ops.size→(listed.getD j false=true↔j≠i)) (fuel:Nat) (ax:1≤fuel):wpAnyIn (bQ rd) 0 P .any ops Q fuel listed a w:=by
 have ew:i<ops.size:=(Array.getElem?_eq_some_iff.1 b0).1
 have eR:i<listed.size:=by rw [b4];exact ew
 cases fuel with
 | zero=>omega
 | succ fuel=>
   refine ⟨fun aH=>absurd (tY gx b4 aH i ew) (fun h=>((cT i ew).1 h) rfl),fun j bG=>?_⟩
   obtain ⟨vQ,rE⟩:=rU b4 bG
   have Ut:j=i:=by
    rcases Nat.decEq j i with c2 | he
    · exact absurd ((cT j vQ).2 c2) rE
    · exact he
   subst Ut
   refine mU bt cp cZ b0 he k.size (fun t aB=>k.av t (Nat.le_of_ble_eq_true (List.all_eq_true.1 (h2 he).2 t aB))) s fun ar x ak ai ay aK=>?_
   rw [aV]
   refine wpAnyIn_done ?_ (cP ar ak ai aK) fuel
   cases aH:Region.ready .any ops (listed.setIfInBounds j true) with
   | nil=>rfl
   | cons m ms=>
     exfalso
     have hm:m ∈ Region.ready .any ops (listed.setIfInBounds j true):=by rw [aH];simp
     obtain ⟨m1,m2⟩:=rU (by simp [b4]) hm
     refine m2 ((eB eR).2 ?_)
     by_cases I8:m=j
     · exact .inl I8
     · exact .inr ((cT m m1).2 I8)
theorem abH {rd:Option Nat} {au:Fr} (bt:dJ P) (cp:fe P call) (cZ:fp P call) (gx:∀i o,ops[i]? =some o→jS i o=true) {i j:Nat} {o p:Oper} (b0:ops[i]? =some o) (kL:ops[j]? =some p) (nd:i≠j) (aV:o.dst=none) (jL:p.dst=none)
 {r:bp} {h U fg ad:ae} {v hr u fo:V} (he:(b8 P an ops o).run call r h=.val v U) (ag:(b8 P an ops p).run call r U=.val u ad) (fv:(b8 P an ops p).run call r h=.val fo fg) (dx:(b8 P an ops o).run call r fg=.val hr ad)
 {Q:Exit→Act→World→Prop} {E:Env} {a:Act} {w:World} (k:ei E an r a) (s:aW au E h w) (cP:∀ar ak,E.le ar→aW au ar ad ak→Q .normal a ak)
 {listed:Array Bool} (b4:listed.size=ops.size) (cT:∀m,m<ops.size→(listed.getD m false=true↔(m≠i∧m≠j))) (fuel:Nat) (ax:2≤fuel):wpAnyIn (bQ rd) 0 P .any ops Q fuel listed a w:=by
 have ew:i<ops.size:=(Array.getElem?_eq_some_iff.1 b0).1
 have Da:j<ops.size:=(Array.getElem?_eq_some_iff.1 kL).1
 have h_:∀{q:Oper} {H hY:ae} {z:V},(b8 P an ops q).run call r H=.val z hY→∀t ∈ bO ops q,Rel E (T.get .bad (aG t) r) (a.tmps.getD t undef):=
  fun he t aB=>k.av t (Nat.le_of_ble_eq_true (List.all_eq_true.1 (h2 he).2 t aB))
 cases fuel with
 | zero=>omega
 | succ fuel=>
   refine ⟨fun aH=>absurd (tY gx b4 aH i ew) (fun h=>((cT i ew).1 h).1 rfl),fun m hm=>?_⟩
   obtain ⟨m1,m2⟩:=rU b4 hm
   have f':m=i∨m=j:=by
    rcases Nat.decEq m i with c2 | he
    · rcases Nat.decEq m j with UP | dD
      · exact absurd ((cT m m1).2 ⟨c2,UP⟩) m2
      · exact .inr dD
    · exact .inl he
   rcases f' with rfl | rfl
   · refine mU bt cp cZ b0 he k.size (h_ he) s fun ar x ak ai ay aK=>?_
     rw [aV]
     have eR:m<listed.size:=by rw [b4];exact ew
     refine Fx bt cp cZ gx kL jL ag (k.mono ai) aK (fun bM bH bY b9=>cP bM bH (ai.trans bY) b9) (by simp [b4]) (fun z bn=>?_) fuel (by omega)
     rw [eB eR,cT z bn]
     constructor
     · rintro (rfl | h)
       · exact nd
       · exact h.2
     · intro h
       by_cases vK:z=m
       · exact .inl vK
       · exact .inr ⟨vK,h⟩
   · refine mU bt cp cZ kL fv k.size (h_ fv) s fun ar x ak ai ay aK=>?_
     rw [jL]
     have eR:m<listed.size:=by rw [b4];exact Da
     refine Fx bt cp cZ gx b0 aV dx (k.mono ai) aK (fun bM bH bY b9=>cP bM bH (ai.trans bY) b9) (by simp [b4]) (fun z bn=>?_) fuel (by omega)
     rw [eB eR,cT z bn]
     constructor
     · rintro (rfl | h)
       · exact fun e=>nd e.symm
       · exact h.1
     · intro h
       by_cases vK:z=m
       · exact .inl vK
       · exact .inr ⟨h,vK⟩
theorem MN {rd:Option Nat} {id:Nat} {a:Act} {w:World} {Q:Exit→Act→World→Prop} (hm:P.follows .mixedOrders=true)
 (h:wpAnyIn (bQ rd) 0 P .any ops Q ops.size (Array.replicate ops.size false) a {w with drawn:=w.drawn+1}):(Code.region id ops true).wpIn (bQ rd) 0 P Q a w:=by
 refine wpIn_region_draw fun t=>?_
 rw [hm]
 exact wpAnyIn_sound _ _ _ _ _ h
theorem FB {r bo:bp}:∀{rs:List Nat},(∀t ∈ rs,T.get .bad (aG t) bo=T.get .bad (aG t) r)→cX bo rs=cX r rs
 | [],_=>rfl
 | t::b7,h=>by
   simp only [cX]
   rw [h t (by simp),FB (rs:=b7) fun u hu=>h u (by simp [hu])]
theorem R2 {all:Array Oper} {o:Oper} {call:c4} {r bo:bp} (h:∀t ∈ bO all o,T.get .bad (aG t) bo=T.get .bad (aG t) r) (H:ae):(b8 P an all o).run call bo H=(b8 P an all o).run call r H:=by
 unfold b8
 cases aq:(ed an o.dst&&il (bO all o)) with
 | false=>rfl
 | true=>
   simp only [cond_true]
   cases aD:o.guard with
   | none=>simp only [gR,FB h]
   | some mu=>
     obtain ⟨j,want⟩:=mu
     simp only
     cases all[j]? with
     | none=>rfl
     | some g=>
       simp only
       cases g.dst with
       | none=>rfl
       | some d=>
         simp only
         cases (Nat.blt d an&&Nat.ble d top) with
         | false=>rfl
         | true=>simp only [cond_true,gR,FB h]
theorem abG {rd:Option Nat} {au:Fr} (bt:dJ P) (cp:fe P call) (cZ:fp P call) (gx:∀i o,ops[i]? =some o→jS i o=true) {l i j:Nat} {b o p:Oper} (rf:ops[l]? =some b) (b0:ops[i]? =some o) (kL:ops[j]? =some p)
 (eR:l≠i) (I0:l≠j) (nd:i≠j) (aV:o.dst=none) (jL:p.dst=none) {r bs:bp} {h U fg ad:ae} {z v hr u fo:V}
 (af:∀H,(b8 P an ops b).run call r H=.val z H) (ot:bs=(ey b.dst).run r z) (tj:∀t ∈ bO ops p,T.get .bad (aG t) bs=T.get .bad (aG t) r)
 (he:(b8 P an ops o).run call bs h=.val v U) (ag:(b8 P an ops p).run call bs U=.val u ad) (fv:(b8 P an ops p).run call bs h=.val fo fg) (dx:(b8 P an ops o).run call bs fg=.val hr ad)
 {Q:Exit→Act→World→Prop} {E:Env} {a:Act} {w:World} (k:ei E an r a) (s:aW au E h w) (cP:∀ar bf ak,E.le ar→ei ar an bs bf→aW au ar ad ak→Q .normal bf ak)
 {listed:Array Bool} (b4:listed.size=ops.size) (pv:mO ops fun k=>listed.getD k false=true) (Vu:∀ch,(dM [] ops.toList)[i]? =some ch→eH ch l=true) (jI:∃ch,(dM [] ops.toList)[i]? =some ch)
 (cT:∀m,m<ops.size→(listed.getD m false=true↔(m≠l∧m≠i∧m≠j))) (fuel:Nat) (ax:3≤fuel):wpAnyIn (bQ rd) 0 P .any ops Q fuel listed a w:=by
 have yA:l<ops.size:=(Array.getElem?_eq_some_iff.1 rf).1
 have ew:i<ops.size:=(Array.getElem?_eq_some_iff.1 b0).1
 have Da:j<ops.size:=(Array.getElem?_eq_some_iff.1 kL).1
 have h_:∀{E:Env} {a:Act} {q:Oper} {R:bp} {H hY:ae} {z:V},ei E an R a→(b8 P an ops q).run call R H=.val z hY→∀t ∈ bO ops q,Rel E (T.get .bad (aG t) R) (a.tmps.getD t undef):=
  fun k he t aB=>k.av t (Nat.le_of_ble_eq_true (List.all_eq_true.1 (h2 he).2 t aB))
 have KJ:∀(L:Array Bool),(mO ops fun k=>L.getD k false=true)→¬L.getD l false=true→i ∈ Region.ready .any ops L→False:=by
  intro L TA pF s_
  rw [mem_ready] at s_
  obtain ⟨_,bR,fQ,q5⟩:=s_
  rw [b0] at fQ;cases fQ
  obtain ⟨ch,jI⟩:=jI
  have sX:mO ops fun k=>L.getD k false=true∨k=i:=by
   intro k ok e az bg he af
   rcases az with az | rfl
   · exact .inl (TA k ok e az bg he af)
   · rw [b0] at bg;cases bg
     exact .inl (q5 e (Array.mem_toList_iff.1 he) (by rw [sz];exact af))
  rcases v_ sX ops.toList [] (fun j=>by simp) (fun k m j az=>by simp at az) i ch l jI (Vu ch jI) (.inr rfl) with h | h
  · exact pF h
  · exact eR h
 have R7:∀m,m ∈ Region.ready .any ops listed→mO ops fun k=>(listed.setIfInBounds m true).getD k false=true:=by
  intro m hm k ok e az bg he af
  have kN:=hm
  rw [mem_ready] at kN
  obtain ⟨_,adO,Jc,q5⟩:=kN
  have UK:m<listed.size:=by rw [b4];exact (Array.getElem?_eq_some_iff.1 Jc).1
  rw [eB UK] at az ⊢
  rcases az with rfl | az
  · rw [Jc] at bg;cases bg
    exact .inr (q5 e (Array.mem_toList_iff.1 he) (by rw [sz];exact af))
  · exact .inr (pv k ok e az bg he af)
 cases fuel with
 | zero=>omega
 | succ fuel=>
   refine ⟨fun aH=>absurd (tY gx b4 aH i ew) (fun h=>((cT i ew).1 h).2.1 rfl),fun m hm=>?_⟩
   obtain ⟨m1,m2⟩:=rU b4 hm
   have f':m=l∨m=j:=by
    rcases Nat.decEq m l with c8 | aF
    · rcases Nat.decEq m j with kX | aM
      · rcases Nat.decEq m i with n3 | cm
        · exact absurd ((cT m m1).2 ⟨c8,n3,kX⟩) m2
        · subst cm
          exact (KJ listed pv (fun h=>((cT l yA).1 h).1 rfl) hm).elim
      · exact .inr aM
    · exact .inl aF
   rcases f' with rfl | rfl
   · -- p first
     have iZ:m<listed.size:=by rw [b4];exact yA
     refine mU bt cp cZ rf (af h) k.size (h_ k (af h)) s fun ar x ak ai ay aK=>?_
     have b6:ei ar an bs (a.put b.dst x):=by rw [ot];exact (k.mono ai).put (h2 (af h)).1 ay
     refine abH bt cp cZ gx b0 kL nd aV jL he ag fv dx b6 aK (fun bM bH bY b9=>cP bM _ bH (ai.trans bY) (b6.mono bY) b9) (by simp [b4]) (fun y a1=>?_) fuel (by omega)
     rw [eB iZ,cT y a1]
     constructor
     · rintro (rfl | h)
       · exact ⟨eR,I0⟩
       · exact h.2
     · intro h
       by_cases vI:y=m
       · exact .inl vI
       · exact .inr ⟨vI,h⟩
   · -- q first
     have iZ:m<listed.size:=by rw [b4];exact Da
     have rl:(b8 P an ops p).run call r h=.val fo fg:=by rw [←R2 tj];exact fv
     have TB:=R7 m hm
     refine mU bt cp cZ kL rl k.size (h_ k rl) s fun ar x ak ai ay aK=>?_
     rw [jL]
     have ru:(listed.setIfInBounds m true).size=ops.size:=by simp [b4]
     cases fuel with
     | zero=>omega
     | succ fuel=>
       refine ⟨fun aH=>absurd (tY gx ru aH i ew) (fun h=>?_),fun y a1=>?_⟩
       · rcases (eB iZ).1 h with e | h
         · exact nd e
         · exact ((cT i ew).1 h).2.1 rfl
       obtain ⟨dp,eF⟩:=rU ru a1
       have VB:y=l:=by
        rcases Nat.decEq y l with c8 | aF
        · rcases Nat.decEq y i with n3 | cm
          · exfalso
            refine eF ((eB iZ).2 ?_)
            by_cases vI:y=m
            · exact .inl vI
            · exact .inr ((cT y dp).2 ⟨c8,n3,vI⟩)
          · subst cm
            refine (KJ _ TB (fun h=>?_) a1).elim
            rcases (eB iZ).1 h with e | h
            · exact I0 e
            · exact ((cT l yA).1 h).1 rfl
        · exact aF
       subst VB
       have bl:=k.mono ai
       refine mU bt cp cZ rf (af fg) bl.size (h_ bl (af fg)) aK fun bM e6 bH t1 t2 t3=>?_
       have b6:ei bM an bs (a.put b.dst e6):=by rw [ot];exact (bl.mono t1).put (h2 (af h)).1 t2
       have Dq:y < (listed.setIfInBounds m true).size:=by rw [ru];exact yA
       refine Fx bt cp cZ gx b0 aV dx b6 t3 (fun ux lP bY b9=>cP ux _ lP (ai.trans (t1.trans bY)) (b6.mono bY) b9) (by simp [b4]) (fun g aD=>?_) fuel (by omega)
       rw [eB Dq,eB iZ,cT g aD]
       constructor
       · rintro (rfl | rfl | h)
         · exact eR
         · exact fun e=>nd e.symm
         · exact h.2.1
       · intro h
         by_cases aF:g=y
         · exact .inl aF
         · by_cases aM:g=m
           · exact .inr (.inl aM)
           · exact .inr (.inr ⟨aF,h,aM⟩)
theorem Cd {rd:Option Nat} {au:Fr} {E:Env} {h:ae} {w:World} {id:Nat} (cO:P.follows .mixedOrders=true) (bt:dJ P) (cp:fe P call) (cZ:fp P call) {r:bp} {a:Act}
 {Q:Exit→Act→World→Prop} (k:ei E an r a) (s:aW au E h w) {es:List dS} {eg:bp} {a8:ae} {order aA dE:List Nat} {N M:Nat} (C:Cert P an ops (fun _=>call) es r h eg a8 dE order aA N M false)
 (cP:N=ops.size→∀ar bf ak,E.le ar→ei ar an eg bf→aW au ar a8 ak→Q .normal bf ak)
 (fh:∀ar bf ak x v aa,E.le ar→N<ops.size→ops.size≤M→(∃i0 gK,ops[i0]? =some gK∧posOf aA i0=N∧(b8 P an ops gK).run call eg a8=.b' v aa)→ei ar an (lj r ops.toList) bf→Rel ar v x→aW au ar aa ak→Q (.panic (mD x)) bf ak)
 (dw:M<ops.size→∀(fuel:Nat) (listed:Array Bool) ar bf ak,(List.range ops.size).countP (fun i=>!listed.getD i false)≤fuel→listed.size=ops.size→mO ops (fun k=>listed.getD k false=true)→(∀k,k<ops.size→(listed.getD k false=true↔posOf aA k<N))→
   E.le ar→ei ar an eg bf→aW au ar a8 ak→wpAnyIn (bQ rd) 0 P .any ops Q fuel listed bf ak):
 (Code.region id ops true).wpIn (bQ rd) 0 P Q a w:=by
 have cU:∀k,¬(Array.replicate ops.size false).getD k false=true:=by
  intro k
  rw [ps,Array.getElem?_replicate]
  split<;>simp
 have hQ:Holds au au es a8 aA (hM ops es a8 aA (Array.replicate ops.size false) 0):=
  ⟨rfl,fun _ _=>rfl,fun k az=>(by obtain ⟨_,_,_,_,a6⟩:=az;omega),fun k bl az=>(by obtain ⟨_,_,_,_,a6⟩:=az;omega)⟩
 obtain ⟨fK,de,g1,g2,g3,g4,g5,g6⟩:=C.advance N 0 (by omega) (fun k o _ _ _=>cU k) au hQ (E:=E) (w:={w with drawn:=w.drawn}) (by rw [C.a6];exact s.same rfl rfl rfl rfl)
 have iX:∀(ar:Env) (bf:Act),E.le ar→bf.defers=a.defers→∀(bo:bp),T.get .bad dT bo=T.get .bad dT r→iR ar (T.get .bad dT bo) bf.defers:=fun ar bf he aV bo oq=>by rw [oq,aV];exact k.defers.mono he
 have yq:T.get .bad dT eg=T.get .bad dT r:=by
  have:=C.Ce N (Nat.le_refl _)
  have Dx:es[N]? =none:=List.getElem?_eq_none (by rw [C.len];exact Nat.le_refl _)
  simpa [dt,Dx] using this
 refine MN cO (HB bt (fun _=>cp) (fun _=>cZ) C (gf:=E) (D:=a.defers)
  (fun a7 ar bf ak ai ay aK bE=>cP a7 ar bf ak ai ⟨ay,iX ar bf ai aK eg yq⟩ bE)
  (fun ar bf ak x v aa ai ay Lz aK bE dr eS iO=>fh ar bf ak x v aa ai ay Lz aK ⟨bE,iX ar bf ai dr _ xY⟩ eS iO)
  (fun g0 fuel listed ar bf ak g1 g2 g3 g4 ai ay aK bE=>dw g0 fuel listed ar bf ak g1 g2 g3 g4 ai ⟨ay,iX ar bf ai aK eg yq⟩ bE) ops.size _ a _ ?_ ?_)
 · exact Nat.le_trans List.countP_le_length (by simp)
 · refine ⟨by simp,k.size,rfl,fun bl az=>absurd az (cU bl),fun bl o e az=>absurd az (cU bl),E,fK,de,Env.le.refl E,g1,g3,fun bl o U ad=>⟨fun h=>absurd h (cU bl),fun h=>by have:=g4 bl o U ad (Nat.zero_le _);omega⟩,
    fun bl o _ _ h=>absurd h (cU bl),g5,?_,fun t aB=>.inr ⟨fun bl o az=>absurd az (cU bl),k.av t aB⟩⟩
   exact g6.same rfl rfl rfl rfl
theorem La {n:Nat} {order aA:List Nat} (fj:jo n order aA=true):order.length=n∧(∀k,k<n→posOf aA k<n∧order[posOf aA k]? =some k)∧∀p,p<n→∃i,i<n∧posOf aA i=p:=by
 unfold jo at fj
 simp only [Bool.and_eq_true,Nat.beq_eq] at fj
 obtain ⟨lr,tb,vq,vr⟩:=fj
 refine ⟨lr,fun k az=>?_,fun p ag=>?_⟩
 · have aD:aA[k]? =some (posOf aA k):=by
    unfold posOf
    rw [List.getElem?_eq_getElem (by omega)]
    rfl
   have:=p3 vq aD
   rw [Nat.zero_add] at this
   exact ⟨by have:=(List.getElem?_eq_some_iff.1 this).1;omega,this⟩
 · have aD:order[p]? =some (order[p]'(by omega)):=List.getElem?_eq_getElem (by omega)
   have:=p3 vr aD
   rw [Nat.zero_add] at this
   refine ⟨order[p]'(by omega),by have:=(List.getElem?_eq_some_iff.1 this).1;omega,?_⟩
   unfold posOf
   rw [this]
   rfl
theorem abE {order aA:List Nat} (ax:wQ P ops order aA=true):3≤ops.size∧∀i o,ops[i]? =some o→∃ch,(dM [] ops.toList)[i]? =some ch∧jS i o=true∧
 (posOf aA i<ops.size-3→∀k ok,ops[k]? =some ok→posOf aA k<ops.size-3→∃mk,(dM [] ops.toList)[k]? =some mk∧lG i ch (bO ops o) o.dst k mk ok (Nat.blt (posOf aA k) (posOf aA i))=true∧(dU P o.op=true→dj P ok=true→posOf aA k<posOf aA i→eH ch k=true))∧
 (¬posOf aA i<ops.size-3→Ae P ops order aA (ops.size-3) i ch o=true):=by
 unfold wQ at ax
 simp only [Bool.and_eq_true,Nat.ble_eq] at ax
 refine ⟨ax.1,fun i o aC=>?_⟩
 obtain ⟨ch,U,ad⟩:=mL ax.2 i o (by simpa using aC)
 simp only [Nat.zero_add,Bool.and_eq_true] at ad
 refine ⟨ch,U,ad.1,fun aO k ok az mc=>?_,fun hy=>?_⟩
 · have aI:=ad.2
   rw [show Nat.blt (posOf aA i) (ops.size-3)=true from by rw [Nat.blt_eq];exact aO] at aI
   simp only [cond_true] at aI
   obtain ⟨mk,b6,cz⟩:=mL aI k ok (by simpa using az)
   simp only [Nat.zero_add] at cz
   rw [show Nat.blt (posOf aA k) (ops.size-3)=true from by rw [Nat.blt_eq];exact mc] at cz
   simp only [cond_true,Bool.and_eq_true] at cz
   refine ⟨mk,b6,cz.1,fun aF aM aO=>?_⟩
   have fx:=cz.2
   rw [aF,aM,Bool.true_and,show Nat.blt (posOf aA k) (posOf aA i)=true from by rw [Nat.blt_eq];exact aO] at fx
   exact fx
 · have aI:=ad.2
   rw [show Nat.blt (posOf aA i) (ops.size-3)=false from by rw [←Bool.not_eq_true,Nat.blt_eq];exact hy] at aI
   exact aI
theorem abF {order aA:List Nat} {N i ch p:Nat} {o zy:Oper} (ag:order[N]? =some p) (i_:ops[p]? =some zy) (h:Ae P ops order aA N i ch o=true):
 (∀k,k<ops.size→posOf aA k<N→eH ch k=true)∧(posOf aA i=N→dU P o.op=false∧looks o.op=false)∧(posOf aA i≠N→∃x,oV o=some x)∧
 (posOf aA i=N+1→eH ch p=true)∧(posOf aA i=N+2→∀t ∈ bO ops o,zy.dst≠some t):=by
 unfold Ae at h
 rw [ag] at h
 simp only [Bool.and_eq_true] at h
 obtain ⟨⟨U,ad⟩,aI,bq⟩:=h
 refine ⟨fun k az De=>?_,fun e=>?_,fun e=>?_,fun e=>?_,fun e t aB=>?_⟩
 · obtain ⟨mk,b6,cz⟩:=mL U k ops[k] (by simp)
   simp only [Nat.zero_add] at cz
   rw [show Nat.blt (posOf aA k) N=true from by rw [Nat.blt_eq];exact De] at cz
   exact cz
 · rw [fM,if_pos e] at ad
   simpa using ad
 · rw [fM,if_neg e] at ad
   exact Option.isSome_iff_exists.1 ad
 · rw [fM,if_pos e] at aI
   exact aI
 · rw [fM,if_pos e,i_] at bq
   simp only at bq
   intro aV
   rw [aV] at bq
   simp only [Bool.not_eq_true'] at bq
   rw [show (bO ops o).contains t=true from by simpa using aB] at bq
   cases bq
theorem CX {es:List dS} {a8:ae} {N p:Nat} (ag:p≤N):bT (es.take N) (bT es a8 N) p=bT es a8 p:=by
 by_cases h:p<N
 · cases he:es[p]? with
   | some e=>simp [bT,h,he]
   | none=>
     have a7:es[N]? =none:=List.getElem?_eq_none (by have:=List.getElem?_eq_none_iff.1 he;omega)
     simp [bT,h,he,a7]
 · have:p=N:=by omega
   subst this
   simp [bT,List.getElem?_take]
theorem LI {es:List dS} {eg:bp} {N p:Nat} (ag:p≤N):dt (es.take N) (dt es eg N) p=dt es eg p:=by
 by_cases h:p<N
 · cases he:es[p]? with
   | some e=>simp [dt,h,he]
   | none=>
     have a7:es[N]? =none:=List.getElem?_eq_none (by have:=List.getElem?_eq_none_iff.1 he;omega)
     simp [dt,h,he,a7]
 · have:p=N:=by omega
   subst this
   simp [dt,List.getElem?_take]
theorem NQ {order:List Nat} {es:List dS} {N i j:Nat} {o p:Oper} {e f:dS} {x y:Operand} (bm:xp ops order es N=true) (aC:order[N]? =some i) (bG:order[N+1]? =some j) (b0:ops[i]? =some o) (kL:ops[j]? =some p)
 (he:es[N]? =some e) (ax:es[N+1]? =some f) (ao:oV o=some x) (a1:oV p=some y) {b c:aN} {off kZ:Nat} (af:(bA x).run (cX e.r (bO ops o))=.ptr b off) (aq:(bA y).run (cX f.r (bO ops p))=.ptr c kZ):b≠c:=by
 unfold xp Fu at bm
 simp only [aC,bG,b0,kL,he,ax,ao,a1,af,aq] at bm
 intro h
 subst h
 rw [aN.u4] at bm
 cases bm
set_option maxHeartbeats 2000000 in
theorem R9 {rd:Option Nat} {au:Fr} {E:Env} {h:ae} {w:World} {id:Nat} (cO:P.follows .mixedOrders=true) (bt:dJ P) (cp:fe P call) (cZ:fp P call) {r:bp} {a:Act} {order aA:List Nat} (fj:jo ops.size order aA=true) (fE:wQ P ops order aA=true)
 {Q:Exit→Act→World→Prop} (ag:kD au E an (Q .normal) Q (Cc ops order (et P an ops (fJ ops order)) (nT P an ops (dM [] ops.toList) aA (fV P aA 0 ops.toList) 0 ops.toList) call r h)) (k:ei E an r a) (s:aW au E h w):(Code.region id ops true).wpIn (bQ rd) 0 P Q a w:=by
 obtain ⟨lr,gp,iN⟩:=La fj
 obtain ⟨ad,fE⟩:=abE fE
 unfold Cc at ag
 cases cb:(et P an ops (fJ ops order)).run call r h with
 | fail=>rw [cb] at ag;exact ag.elim
 | b' _ _ _ _ _=>rw [cb] at ag;exact ag.elim
 | ok es eg a8=>
   rw [cb] at ag
   simp only at ag
   obtain ⟨N,TJ⟩:∃N,N=ops.size-3:=⟨_,rfl⟩
   rw [←TJ] at ag fE
   cases aE:(xp ops order es (N+1)&&(nT P an ops (dM [] ops.toList) aA (fV P aA 0 ops.toList) 0 ops.toList).run call (es.take N) (bT es a8 N)) with
   | false=>rw [aE] at ag;exact ag.elim
   | true=>
     rw [aE] at ag
     simp only [cond_true] at ag
     simp only [Bool.and_eq_true] at aE
     obtain ⟨ym,vb⟩:=aE
     obtain ⟨ai,ay,aK,bE⟩:=qd cb
     have hlen:es.length=ops.size:=by rw [ai,mB,lr]
     have inj:∀i j,i<ops.size→j<ops.size→posOf aA i=posOf aA j→i=j:=by
      intro i j aC bG he
      have a:=(gp i aC).2
      have b:=(gp j bG).2
      rw [he,b] at a
      cases a
      rfl
     obtain ⟨jN,pw,sY⟩:=iN N (by omega)
     obtain ⟨lv,sV,sW⟩:=iN (N+1) (by omega)
     obtain ⟨np,n',qX⟩:=iN (N+2) (by omega)
     have vk:ops[jN]? =some ops[jN]:=Array.getElem?_eq_getElem pw
     have yv:ops[lv]? =some ops[lv]:=Array.getElem?_eq_getElem sV
     have yw:ops[np]? =some ops[np]:=Array.getElem?_eq_getElem n'
     have DD:=(gp jN pw).2
     have DB:=(gp lv sV).2
     have DC:=(gp np n').2
     rw [sY] at DD
     rw [sW] at DB
     rw [qX] at DC
     have tl:∀i o,ops[i]? =some o→¬posOf aA i<N→∃ch,(dM [] ops.toList)[i]? =some ch∧(∀k,k<ops.size→posOf aA k<N→eH ch k=true)∧(posOf aA i=N→dU P o.op=false∧looks o.op=false)∧(posOf aA i≠N→∃x,oV o=some x)∧
      (posOf aA i=N+1→eH ch jN=true)∧(posOf aA i=N+2→∀t ∈ bO ops o,ops[jN].dst≠some t):=by
      intro i o aC hy
      obtain ⟨ch,ca,_,_,z4⟩:=fE i o aC
      exact ⟨ch,ca,abF DD vk (z4 hy)⟩
     obtain ⟨adC,_,_,abD,_⟩:=tl jN _ vk (by omega)
     obtain ⟨YG,I5,_,_,abB,al,_⟩:=tl lv _ yv (by omega)
     obtain ⟨adB,ado,_,_,abC,_,E2⟩:=tl np _ yw (by omega)
     obtain ⟨HI,YA⟩:=abD sY
     obtain ⟨ad',DY⟩:=abB (by omega)
     obtain ⟨ad_,DZ⟩:=abC (by omega)
     have al:=al sW
     have E2:=E2 qX
     obtain ⟨Cg,e3,hi,yZ⟩:=bE _ _ (kq DD vk)
     obtain ⟨qM,bN,a2,a3⟩:=bE _ _ (kq DB yv)
     obtain ⟨HG,bJ,cg,h0⟩:=bE _ _ (kq DC yw)
     obtain ⟨ad2,aec,Zf,Hm,ac7⟩:=Ft DY
     obtain ⟨ad3,aed,adK,Hn,ac8⟩:=Ft DZ
     have cU:es[N+2+1]? =none:=List.getElem?_eq_none (by omega)
     have UA:bT es a8 (N+2+1)=a8:=by simp [bT,cU]
     have aaC:dt es eg (N+2+1)=eg:=by simp [dt,cU]
     have TI:bT es a8 N=Cg.h:=by simp [bT,e3]
     have aah:dt es eg N=Cg.r:=by simp [dt,e3]
     have TG:bT es a8 (N+1)=qM.h:=by simp [bT,bN]
     have aaf:dt es eg (N+1)=qM.r:=by simp [dt,bN]
     have TH:bT es a8 (N+1+1)=HG.h:=by simp [bT,bJ]
     have aag:dt es eg (N+1+1)=HG.r:=by simp [dt,bJ]
     rw [aaf] at yZ
     rw [TG] at hi
     rw [Hm,aag] at a3
     rw [Hn,aaC] at h0
     simp only [ey] at a3 h0
     rw [TH] at a2
     rw [UA] at cg
     obtain ⟨TF,CF⟩:=qL HI hi
     have CF:=CF YA
     obtain ⟨GA,adL,V8,ZW,L0,ab4⟩:=Hy DY a2
     obtain ⟨A9,adM,JV,ZX,aaT,ab5⟩:=Hy DZ cg
     have c2:GA≠A9:=NQ ym DB DC yv yw bN bJ DY DZ ZW ZX
     have CE:=ab5 qM.h (by rw [L0,ae.dH,if_neg c2])
     have va:=ab4 (qM.h.set A9 JV) (by rw [ae.dH,if_neg (fun e=>c2 e.symm)])
     have T3:(qM.h.set A9 JV).set GA V8=a8:=by rw [ae.set_comm _ (fun e=>c2 e.symm),←L0,←aaT]
     rw [T3] at va
     rw [a3] at CE cg
     have rr:eg=qM.r:=h0.trans a3
     have UM:∀m,m<ops.size→(posOf aA m<N↔(m≠jN∧m≠lv∧m≠np)):=by
      intro m hm
      have ads:=(gp m hm).1
      constructor
      · intro h
        exact ⟨fun e=>by subst e;omega,fun e=>by subst e;omega,fun e=>by subst e;omega⟩
      · rintro ⟨cd,c8,kX⟩
        have xJ:posOf aA m≠N:=fun e=>cd (inj m jN hm pw (by rw [e,sY]))
        have bB:posOf aA m≠N+1:=fun e=>c8 (inj m lv hm sV (by rw [e,sW]))
        have bX:posOf aA m≠N+2:=fun e=>kX (inj m np hm n' (by rw [e,qX]))
        omega
     have T1:dj P ops[lv]=true:=by unfold dj e_;rw [Zf];rfl
     have tj:∀t ∈ bO ops ops[np],T.get .bad (aG t) qM.r=T.get .bad (aG t) Cg.r:=by
      intro t aB
      have tn:t≤top:=Nat.le_of_ble_eq_true (List.all_eq_true.1 (h2 cg).2 t aB)
      rw [yZ,Ij (h2 hi).1 tn,if_neg (E2 t aB)]
     have f_:∀i o,ops[i]? =some o→posOf aA i<N→∃e,(es.take N)[posOf aA i]? =some e∧(b8 P an ops o).run call e.r e.h=.val e.v (bT (es.take N) (bT es a8 N) (posOf aA i+1))∧dt (es.take N) (dt es eg N) (posOf aA i+1)=(ey o.dst).run e.r e.v:=by
      intro i o aP aC
      obtain ⟨e,ca,z2,z3⟩:=bE _ o (kq (gp i (Array.getElem?_eq_some_iff.1 aP).1).2 aP)
      refine ⟨e,by simp [aC,ca],?_,?_⟩
      · rw [CX (by omega)];exact z2
      · rw [LI (by omega)];exact z3
     have C:Cert P an ops (fun _=>call) (es.take N) r h (dt es eg N) (bT es a8 N) (N::fV P aA 0 ops.toList) order aA N N false:=
      ⟨by simp [hlen];omega,by omega,Nat.le_refl _,gp,iN,by rw [CX (Nat.zero_le _)];exact ay,by rw [LI (Nat.zero_le _)];exact aK,f_,
        fun i o aP=>by
         obtain ⟨ch,ca,z2,z3,_⟩:=fE i o aP
         exact ⟨ch,ca,z2,fun aC k ok az Dd=>by
          obtain ⟨mk,dp,eF,y3⟩:=z3 aC k ok az Dd
          exact ⟨mk,dp,eF,fun a b c=>.inl (y3 a b c)⟩⟩,
        by simp,
        fun j o U ad=>List.mem_cons_of_mem _ (by simpa using tA (aA:=aA) (i:=0) (j:=j) (l:=ops.toList) (by simpa using U) ad),
        fun s aR=>by
         rcases List.mem_cons.1 aR with rfl | aR
         · exact .inl (.inr ⟨rfl,rfl⟩)
         · rcases pT aR with h | ⟨j,o,U,ad,aI⟩
           · exact .inl (.inl (by simpa using h))
           · exact .inr ⟨j,o,by simpa using U,ad,by simpa using aI⟩,
        fun j o U ad aI bq=>by
         obtain ⟨e,g1,_⟩:=f_ j o U bq
         have Js:=A4 vb j o (by simpa using U) ad aI e (by simpa using g1)
         refine ⟨e,g1,fun s aR hm=>?_⟩
         rcases List.mem_cons.1 aR with rfl | aR
         · have kf:oI P (dM [] ops.toList) ops.toList aA j (((dM [] ops.toList)[j]?).getD 0) (s+1)=true:=by
            unfold oI at hm ⊢
            refine FO (by rw [En];simp) fun cc mk ok dp eF=>?_
            obtain ⟨mk',bu,e6⟩:=mL hm cc ok eF
            rw [dp] at bu;cases bu
            simp only [Nat.zero_add] at e6 ⊢
            have bg:ops[cc]? =some ok:=by simpa using eF
            have mc:=(Array.getElem?_eq_some_iff.1 bg).1
            by_cases me:posOf aA cc=s
            · have:cc=jN:=inj cc jN mc pw (by rw [me,sY])
              subst this
              rw [vk] at bg;cases bg
              have UO:dj P ops[cc]=false:=by unfold dj;rw [HI];rfl
              rw [UO]
              rfl
            · have:Nat.blt (posOf aA cc) (s+1)=Nat.blt (posOf aA cc) s:=by
               rw [Bool.eq_iff_iff,Nat.blt_eq,Nat.blt_eq]
               omega
              rw [this]
              exact e6
           have s_:s+1 ∈ fV P aA 0 ops.toList:=by rw [←sW];simpa using tA (P:=P) (aA:=aA) (i:=0) (j:=lv) (l:=ops.toList) (by simp) T1
           obtain ⟨aa,g3⟩:=Js (s+1) s_ (by simpa using kf)
           refine ⟨call,aa,⟨cp,cZ⟩,?_⟩
           have aF:bT (es.take s) (bT es a8 s) (s+1)=bT es a8 s:=by
            have:(es.take s)[s+1]? =none:=List.getElem?_eq_none (by simp;omega)
            simp only [bT,this]
           have aM:bT (es.take s) (bT es a8 s) s=bT es a8 s:=CX (Nat.le_refl _)
           rw [aF] at g3
           rw [aM]
           exact g3
         · obtain ⟨aa,g3⟩:=Js s aR (by simpa using hm)
           exact ⟨call,aa,⟨cp,cZ⟩,g3⟩,
        fun _=>⟨rfl,fun cc ok mk az hy Ds j bG vl=>by
         obtain ⟨ch,ca,z2,_⟩:=tl cc ok az (by omega)
         rw [Ds] at ca;cases ca
         exact z2 j bG vl⟩,
        fun U ad=>by omega⟩
     refine Cd cO bt cp cZ k s C (fun h=>by omega) (fun _ _ _ _ _ _ _ _ h=>by omega) (fun _ fuel listed ar bf ak g1 g2 g3 g4 g5 g6 g7=>?_)
     rw [aah] at g6
     rw [TI] at g7
     rw [TF] at a2 CE va
     refine abG bt cp cZ (fun i o aP=>by obtain ⟨ch,_,z2,_⟩:=fE i o aP;exact z2) vk yv yw (fun e=>by rw [e] at sY;omega) (fun e=>by rw [e] at sY;omega) (fun e=>by rw [e] at sW;omega) Hm Hn
      CF yZ tj a2 cg CE va g6 g7 (fun bM a2 bH bY b9 dZ=>ag bM a2 bH (g5.trans bY) (by rw [rr];exact b9) dZ) g2 g3 (fun ch jI=>by rw [I5] at jI;cases jI;exact al) ⟨YG,I5⟩ (fun m hm=>(g4 m hm).trans (UM m hm)) fuel ?_
     have B7:∀(L:Array Bool) (x:Nat),L.size=ops.size→x<ops.size→¬L.getD x false=true→(List.range ops.size).countP (fun k=>!(L.setIfInBounds x true).getD k false) < (List.range ops.size).countP (fun k=>!L.getD k false):=by
      intro L x cy ao a7
      have tt:x<L.size:=by rw [cy];exact ao
      refine xO (fun k=>!L.getD k false) (fun k=>!(L.setIfInBounds x true).getD k false) (List.range ops.size) (fun k _ az=>?_) ⟨x,List.mem_range.2 ao,?_,?_⟩
      · simp only [Bool.not_eq_true'] at az ⊢
        cases aE:L.getD k false with
        | false=>rfl
        | true=>
          have:=(eB (k:=k) tt).2 (.inr aE)
          rw [az] at this
          cases this
      · cases aE:L.getD x false with
        | false=>rfl
        | true=>exact absurd aE a7
      · have:=(eB (k:=x) tt).2 (.inl rfl)
        simp [this]
     have YV:¬listed.getD jN false=true:=fun h=>by have:=(g4 jN pw).1 h;omega
     have YT:¬listed.getD lv false=true:=fun h=>by have:=(g4 lv sV).1 h;omega
     have YU:¬listed.getD np false=true:=fun h=>by have:=(g4 np n').1 h;omega
     have bB:=B7 listed jN g2 pw YV
     have bX:=B7 (listed.setIfInBounds jN true) lv (by simp [g2]) sV (fun h=>by
      rcases (eB (by rw [g2];exact pw)).1 h with e | h
      · rw [e] at sW;omega
      · exact YT h)
     have c3:=B7 ((listed.setIfInBounds jN true).setIfInBounds lv true) np (by simp [g2]) n' (fun h=>by
      rcases (eB (by simp [g2];exact sV)).1 h with e | h
      · rw [e] at qX;omega
      · rcases (eB (by rw [g2];exact pw)).1 h with e | h
        · rw [e] at qX;omega
        · exact YU h)
     omega
end
end Go.Proofs.YtkehcalakofigaaGreatDoor.aY
namespace Go.Proofs.YtkehcalakofigaaGreatDoor.aY
variable [Lay]
open Go Go.RowKit
section
variable {P:Program} {an:Nat} {ops:Array Oper} {call:c4}
inductive lQ {α β:Type} (R:α→β→Prop):List α→List β→Prop
 | nil:lQ R [] []
 | cons {a:α} {b:β} {Eh:List α} {Ei:List β} (h:R a b) (t:lQ R Eh Ei):lQ R (a::Eh) (b::Ei)
def rT (ops:Array Oper) (t:Nat) (listed:Array Bool):Option Nat:=(Region.ready .any ops listed)[t % (Region.ready .any ops listed).length]?
theorem go_succ (fuel t:Nat) (listed:Array Bool):Region.linearise.go .any ops (fuel+1) t listed []=match rT ops t listed with
 | some i=>i::Region.linearise.go .any ops fuel (t / (Region.ready .any ops listed).length) (listed.setIfInBounds i true) []
 | none=>[]:=by
 simp only [Region.linearise.go]
 change (match (Region.ready .any ops listed)[t % (Region.ready .any ops listed).length]? with
  | some i=>Region.linearise.go .any ops fuel (t / (Region.ready .any ops listed).length) (listed.setIfInBounds i true) [i]
  | none=>[].reverse)=_
 unfold rT
 cases (Region.ready .any ops listed)[t % (Region.ready .any ops listed).length]? with
 | none=>rfl
 | some i=>
   simp only
   rw [linearise_go_acc,List.reverse_singleton,List.singleton_append]
theorem LF {t:Nat} {listed:Array Bool} (h:rT ops t listed=none):Region.ready .any ops listed=[]:=by
 unfold rT at h
 cases aH:Region.ready .any ops listed with
 | nil=>rfl
 | cons x xs=>
   rw [aH] at h
   have aO:t % (x::xs).length < (x::xs).length:=Nat.mod_lt _ (by simp)
   rw [List.getElem?_eq_getElem aO] at h
   cases h
theorem E4 {t i:Nat} {listed:Array Bool} (h:rT ops t listed=some i):i ∈ Region.ready .any ops listed:=List.mem_of_getElem? h
theorem count_set {listed:Array Bool} {i:Nat} (b4:listed.size=ops.size) (aC:i<ops.size) (a7:¬listed.getD i false=true):
 (List.range ops.size).countP (fun k=>!(listed.setIfInBounds i true).getD k false) < (List.range ops.size).countP (fun k=>!listed.getD k false):=by
 have aj:i<listed.size:=by rw [b4];exact aC
 refine xO (fun k=>!listed.getD k false) (fun k=>!(listed.setIfInBounds i true).getD k false) (List.range ops.size) (fun k _ az=>?_) ⟨i,List.mem_range.2 aC,?_,?_⟩
 · simp only [Bool.not_eq_true'] at az ⊢
   cases aE:listed.getD k false with
   | false=>rfl
   | true=>
     have:=(eB (k:=k) aj).2 (.inr aE)
     rw [az] at this
     cases this
 · cases aE:listed.getD i false with
   | false=>rfl
   | true=>exact absurd aE a7
 · have:=(eB (k:=i) aj).2 (.inl rfl)
   simp [this]
theorem Ik (gx:∀i o,ops[i]? =some o→jS i o=true):∀(fuel t:Nat) (listed:Array Bool),listed.size=ops.size→(List.range ops.size).countP (fun i=>!listed.getD i false)≤fuel→
 (Region.linearise.go .any ops fuel t listed []).Nodup∧(∀k ∈ Region.linearise.go .any ops fuel t listed [],k<ops.size∧¬listed.getD k false=true)∧
  ∀k,k<ops.size→listed.getD k false=true∨k ∈ Region.linearise.go .any ops fuel t listed []
 | 0,t,listed,b4,aq=>by
   have e:Region.linearise.go .any ops 0 t listed []=[]:=rfl
   rw [e]
   refine ⟨List.nodup_nil,fun k az=>by simp at az,fun k az=>.inl ?_⟩
   have a6:(List.range ops.size).countP (fun i=>!listed.getD i false)=0:=by omega
   rw [List.countP_eq_zero] at a6
   simpa using a6 k (List.mem_range.2 az)
 | fuel+1,t,listed,b4,aq=>by
   rw [go_succ]
   cases aH:rT ops t listed with
   | none=>
     simp only
     exact ⟨List.nodup_nil,fun k az=>by simp at az,fun k az=>.inl (tY gx b4 (LF aH) k az)⟩
   | some i=>
     simp only
     obtain ⟨i1,i2⟩:=rU b4 (E4 aH)
     have aj:i<listed.size:=by rw [b4];exact i1
     have:=count_set b4 i1 i2
     obtain ⟨g1,g2,g3⟩:=Ik gx fuel (t / (Region.ready .any ops listed).length) (listed.setIfInBounds i true) (by simp [b4]) (by omega)
     refine ⟨List.nodup_cons.2 ⟨fun hm=>(g2 i hm).2 ((eB aj).2 (.inl rfl)),g1⟩,fun k az=>?_,fun k az=>?_⟩
     · rcases List.mem_cons.1 az with rfl | az
       · exact ⟨i1,i2⟩
       · exact ⟨(g2 k az).1,fun h=>(g2 k az).2 ((eB aj).2 (.inr h))⟩
     · rcases g3 k az with h | h
       · rcases (eB aj).1 h with rfl | h
         · exact .inr (by simp)
         · exact .inl h
       · exact .inr (by simp [h])
theorem Aa {o:Oper} {os:List Oper} {r:bp} {h:ae} {es:List dS} {cv:bp} {ax:ae} (he:(et P an ops (o::os)).run call r h=.ok es cv ax):
 ∃v U fO,(b8 P an ops o).run call r h=.val v U∧(et P an ops os).run call ((ey o.dst).run r v) U=.ok fO cv ax∧es=⟨r,h,v⟩::fO:=by
 simp only [et,wP] at he
 cases U:(b8 P an ops o).run call r h with
 | fail=>rw [U] at he;cases he
 | b' _ _=>rw [U] at he;simp only at he;cases hm:jl o.op<;>rw [hm] at he<;>cases he
 | val v a8=>
   rw [U] at he
   simp only at he
   cases ad:(et P an ops os).run call ((ey o.dst).run r v) a8 with
   | fail=>rw [ad] at he;cases he
   | b' _ _ _ _ _=>rw [ad] at he;cases he
   | ok fO bs aI=>
     rw [ad] at he
     simp only [mN.ok.injEq] at he
     obtain ⟨rfl,rfl,rfl⟩:=he
     exact ⟨v,a8,fO,rfl,ad,rfl⟩
theorem Ab {o:Oper} {os:List Oper} {r:bp} {h U:ae} {v:V} {fO:List dS} {cv:bp} {ax:ae} (a6:(b8 P an ops o).run call r h=.val v U) (ad:(et P an ops os).run call ((ey o.dst).run r v) U=.ok fO cv ax):
 (et P an ops (o::os)).run call r h=.ok (⟨r,h,v⟩::fO) cv ax:=by
 simp only [et,wP,a6,ad]
theorem Fq:∀(e3 hi:List Oper) {r:bp} {h:ae} {es:List dS} {cv:bp} {ax:ae},(et P an ops (e3++hi)).run call r h=.ok es cv ax→
 ∃fO bs U mW,(et P an ops e3).run call r h=.ok fO bs U∧(et P an ops hi).run call bs U=.ok mW cv ax∧es=fO++mW
 | [],hi,r,h,es,cv,ax,he=>⟨[],r,h,es,rfl,he,rfl⟩
 | o::os,hi,r,h,es,cv,ax,he=>by
   obtain ⟨v,U,fO,ai,ay,rfl⟩:=Aa he
   obtain ⟨Cn,bs,aI,mW,g1,g2,rfl⟩:=Fq os hi ay
   exact ⟨⟨r,h,v⟩::Cn,bs,aI,mW,Ab ai g1,g2,rfl⟩
theorem Fs:∀(e3 hi:List Oper) {r bs cv:bp} {h U ax:ae} {fO mW:List dS},(et P an ops e3).run call r h=.ok fO bs U→(et P an ops hi).run call bs U=.ok mW cv ax→
 (et P an ops (e3++hi)).run call r h=.ok (fO++mW) cv ax
 | [],hi,r,bs,cv,h,U,ax,fO,mW,he,ad=>by
   simp only [et,mN.ok.injEq] at he
   obtain ⟨rfl,rfl,rfl⟩:=he
   exact ad
 | o::os,hi,r,bs,cv,h,U,ax,fO,mW,he,ad=>by
   obtain ⟨v,aI,Cn,ai,ay,rfl⟩:=Aa he
   exact Ab ai (Fs os hi ay ad)
theorem wq:∀(a b:List Nat),fJ ops (a++b)=fJ ops a++fJ ops b
 | [],b=>rfl
 | x::xs,b=>by simp [fJ,wq xs b]
theorem LA:∀(l:List Oper),(∀o ∈ l,dU P o.op=false∧looks o.op=false)→∀{r cv:bp} {h ax:ae} {es:List dS},(et P an ops l).run call r h=.ok es cv ax→
 ax=h∧∀H:ae,∃l5,(et P an ops l).run call r H=.ok l5 cv H
 | [],_,r,cv,h,ax,es,he=>by
   simp only [et,mN.ok.injEq] at he
   obtain ⟨rfl,rfl,rfl⟩:=he
   exact ⟨rfl,fun H=>⟨[],rfl⟩⟩
 | o::os,aE,r,cv,h,ax,es,he=>by
   obtain ⟨v,U,fO,ai,ay,rfl⟩:=Aa he
   obtain ⟨aF,aM⟩:=aE o (by simp)
   obtain ⟨d1,d2⟩:=qL aF ai
   subst d1
   obtain ⟨g1,g2⟩:=LA os (fun bR fQ=>aE bR (by simp [fQ])) ay
   refine ⟨g1,fun H=>?_⟩
   obtain ⟨l5,g3⟩:=g2 H
   exact ⟨_,Ab (d2 aM H) g3⟩
theorem vM {o:Oper} {A:sc} (h:je o=some A):o.op=.insert A.t A.m A.k A.x∧o.dst=none∧o.guard=none:=by
 unfold je at h
 split at h
 case h_2=>cases h
 rename_i t m k x aP
 split at h
 case h_2=>cases h
 rename_i aV
 split at h
 case h_2=>cases h
 rename_i aD
 cases h
 exact ⟨aP,aV,aD⟩
theorem Lv {e:c1} {k v:V} {c:Nat}:∀{es:List bW},(∀m ∈ es,e.run k m.k=some false)→kv e k v c es=some (es++[⟨k,v,c⟩],true)
 | [],_=>rfl
 | m::ms,h=>by
   simp only [kv,h m (by simp),cond_false,Lv (es:=ms) fun cI kf=>h cI (by simp [kf]),List.cons_append]
theorem R3 {o:Oper} {A:sc} (s9:vS P A.t=true) (kI:je o=some A) {r:bp} {H1 cR:ae} {v:V} (he:(b8 P an ops o).run call r H1=.val v cR) {b:aN} (af:(bA A.m).run (cX r (bO ops o))=.map b):
 ∀(H:ae) es c,H.get b=.mp es c→(∀m ∈ es,(pP P A.t).run ((bA A.k).run (cX r (bO ops o))) m.k=some false)→
  (b8 P an ops o).run call r H=.val .bad (H.set b (.mp (es++[⟨(bA A.k).run (cX r (bO ops o)),(bA A.x).run (cX r (bO ops o)),c⟩]) (c+1))):=by
 obtain ⟨aP,aV,aD⟩:=vM kI
 obtain ⟨U,ad⟩:=h2 he
 have key:b8 P an ops o=⟨gR none (eb P o) (bO ops o)⟩:=by
  unfold b8
  rw [show (ed an o.dst&&il (bO ops o))=true from by rw [U,ad];rfl,aD]
  rfl
 rw [key] at he ⊢
 simp only [gR] at he ⊢
 have q2:∀H,(eb P o).run call (cX r (bO ops o)) H=fW .bad ((lO P A.t).run H (.map b) ((bA A.k).run (cX r (bO ops o))) ((bA A.x).run (cX r (bO ops o)))):=by
  intro H
  unfold eb
  rw [aP]
  simp only [af]
 rw [q2] at he
 have Vq:lO P A.t=⟨nE (pP P A.t)⟩:=by
  cases aR:(lO P A.t).run H1 (.map b) ((bA A.k).run (cX r (bO ops o))) ((bA A.x).run (cX r (bO ops o))) with
  | none=>rw [aR] at he;cases he
  | some aI=>
    unfold lO at aR ⊢
    unfold pP
    cases aB:aX P A.t with
    | none=>rw [aB] at aR;cases aR
    | some aL=>
      rw [aB] at aR
      simp only at aR ⊢
      cases bC:aL.a_<;>rw [bC] at aR<;>simp only at aR ⊢<;>try (cases aR;done)
      rename_i b1 h3
      cases kM:aX P b1 with
      | none=>rw [kM] at aR;cases aR
      | some fT=>
        rw [kM] at aR
        simp only at aR ⊢
        cases ax:kS fT.a_ with
        | false=>
          unfold vS at s9
          rw [aB] at s9
          simp only [bC,kM,ax] at s9
          cases s9
        | true=>rfl
 intro H es c iA az
 rw [q2,Vq]
 simp only [nE,iA,bS.iM,Lv az,fW,cond_true]
theorem VY {o:Oper} {r:bp} {b:aN} {m:bW} (h:pN ops r b o=some m):∃A,je o=some A∧(bA A.m).run (cX r (bO ops o))=.map b∧m.k=(bA A.k).run (cX r (bO ops o))∧m.v=(bA A.x).run (cX r (bO ops o)):=by
 unfold pN at h
 cases bm:je o with
 | none=>rw [bm] at h;cases h
 | some A=>
   rw [bm] at h
   simp only at h
   cases hm:(bA A.m).run (cX r (bO ops o))<;>rw [hm] at h<;>simp only at h<;>try (cases h;done)
   obtain ⟨aq,U⟩:=dG h
   have:=aN.jz aq
   subst this
   cases U
   exact ⟨A,rfl,hm,rfl,rfl⟩
def iq (ops:Array Oper) (r:bp) (b:aN) (i:Nat) (m:bW):Prop:=∃o,ops[i]? =some o∧pN ops r b o=some m
theorem iq.B' {r:bp} {b:aN} {i:Nat} {m cI:bW} (h:iq ops r b i m) (aa:iq ops r b i cI):m=cI:=by
 obtain ⟨o,U,ad⟩:=h
 obtain ⟨bR,aI,bq⟩:=aa
 rw [U] at aI;cases aI
 rw [ad] at bq;cases bq
 rfl
theorem yT {r:bp} {b:aN}:∀{is:List Nat} {ms:List bW},rD ops r b is=some ms→lQ (iq ops r b) is ms
 | [],ms,h=>by simp only [rD,Option.some.injEq] at h;subst h;exact .nil
 | i::is,ms,h=>by
   simp only [rD] at h
   cases aP:ops[i]? with
   | none=>rw [aP] at h;cases h
   | some o=>
     rw [aP] at h
     simp only at h
     cases hm:pN ops r b o with
     | none=>rw [hm] at h;cases h
     | some m=>
       rw [hm] at h
       simp only at h
       cases aR:rD ops r b is with
       | none=>rw [aR] at h;cases h
       | some adF=>
         rw [aR] at h
         simp only [Option.some.injEq] at h
         subst h
         exact .cons ⟨o,aP,hm⟩ (yT aR)
theorem JS {x:Option Bool} (h:isFalse x=true):x=some false:=by
 cases x with
 | none=>cases h
 | some b=>cases b<;>simp_all [isFalse]
theorem AY {e:c1} {m:bW}:∀{ms:List bW},xq e m ms=true→∀cI ∈ ms,e.run m.k cI.k=some false∧e.run cI.k m.k=some false
 | [],_,cI,h=>by simp at h
 | x::xs,h,cI,hm=>by
   simp only [xq,Bool.and_eq_true] at h
   rcases List.mem_cons.1 hm with rfl | hm
   · exact ⟨JS h.1,JS h.2.1⟩
   · exact AY h.2.2 cI hm
theorem Gk {r:bp} {b:aN} {e:c1}:∀{is:List Nat} {ms:List bW},lQ (iq ops r b) is ms→is.Nodup→uI e ms=true→∀i j m cI,i ∈ is→j ∈ is→i≠j→iq ops r b i m→iq ops r b j cI→e.run m.k cI.k=some false
 | _,_,.nil,_,_,i,_,_,_,aC,_,_,_,_=>by simp at aC
 | _,_,.cons (a:=x) (b:=dk) (Eh:=xs) (Ei:=YS) a6 aB,a7,bm,i,j,m,cI,aC,bG,nd,hm,kf=>by
   simp only [uI,Bool.and_eq_true] at bm
   rw [List.nodup_cons] at a7
   have JI:∀k n,k ∈ xs→iq ops r b k n→n ∈ YS:=by
    intro k n az Ux
    have gen:∀{is:List Nat} {ms:List bW},lQ (iq ops r b) is ms→k ∈ is→n ∈ ms:=by
     intro is ms ax
     induction ax with
     | nil=>intro az;simp at az
     | cons U _ bh=>
       intro az
       rcases List.mem_cons.1 az with rfl | az
       · rw [Ux.B' U];simp
       · exact List.mem_cons_of_mem _ (bh az)
    exact gen aB az
   rcases List.mem_cons.1 aC with IW | aC
   · rcases List.mem_cons.1 bG with Db | bG
     · exact absurd (IW.trans Db.symm) nd
     · rw [IW] at hm
       rw [hm.B' a6]
       exact (AY bm.1 cI (JI j cI bG kf)).1
   · rcases List.mem_cons.1 bG with Db | bG
     · rw [Db] at kf
       rw [kf.B' a6]
       exact (AY bm.1 m (JI i m aC hm)).2
     · exact Gk aB a7.2 bm.2 i j m cI aC bG nd hm kf
theorem D5 {gY:bp} {b:aN} {e:c1} {I:List Nat} (oa:∀i ∈ I,∃o A m,ops[i]? =some o∧je o=some A∧(vS P A.t=true∧pP P A.t=e)∧pN ops gY b o=some m∧∃v H1 cR,(b8 P an ops o).run call gY H1=.val v cR)
 (yl:∀i j m cI,i ∈ I→j ∈ I→i≠j→iq ops gY b i m→iq ops gY b j cI→e.run m.k cI.k=some false):
 ∀(τ:List Nat) (done:List Nat) (ds:List bW) (c:Nat) (H:ae),(∀i ∈ τ,i ∈ I)→(∀i ∈ done,i ∈ I)→(done++τ).Nodup→(∀m ∈ ds,∃i ∈ done,∃cI,iq ops gY b i cI∧m.k=cI.k)→H.get b=.mp ds c→
  ∃es ms fB hY,(et P an ops (fJ ops τ)).run call gY H=.ok es gY hY∧hY.get b=.mp (ds++ms) fB∧(∀k,b≠k→hY.get k=H.get k)∧(∀k,hY.set b k=H.set b k)∧(∀e ∈ es,∀k,b≠k→e.h.get k=H.get k)∧
   lQ (fun i (m:bW)=>∃cI,iq ops gY b i cI∧m.k=cI.k∧m.v=cI.v) τ ms
 | [],done,ds,c,H,_,_,_,_,iA=>⟨[],[],c,H,rfl,by rw [List.append_nil];exact iA,fun _ _=>rfl,fun _=>rfl,fun e he=>by simp at he,.nil⟩
 | i::τ,done,ds,c,H,yO,IK,lq,pA,iA=>by
   obtain ⟨o,A,m,aP,kI,⟨s9,rb⟩,hm,v,H1,cR,cu⟩:=oa i (yO i (by simp))
   obtain ⟨hL,Ix,af,az,ao⟩:=VY hm
   rw [kI] at Ix;cases Ix
   have ng:i ∉ done:=fun h=>by
    rw [List.nodup_append] at lq
    exact lq.2.2 i h i (by simp) rfl
   have f_:=R3 s9 kI cu af H ds c iA (fun cI kf=>by
    obtain ⟨j,bG,YO,Ud,Uw⟩:=pA cI kf
    rw [Uw,rb,←az]
    exact yl i j m YO (yO i (by simp)) (IK j bG) (fun e=>ng (e ▸ bG)) ⟨o,aP,hm⟩ Ud)
   obtain ⟨_,aV,_⟩:=vM kI
   obtain ⟨es,ms,fB,hY,g1,g2,g3,g4,g6,g5⟩:=D5 oa yl τ (done++[i]) (ds++[⟨(bA A.k).run (cX gY (bO ops o)),(bA A.x).run (cX gY (bO ops o)),c⟩]) (c+1)
    (H.set b (.mp (ds++[⟨(bA A.k).run (cX gY (bO ops o)),(bA A.x).run (cX gY (bO ops o)),c⟩]) (c+1))) (fun j bG=>yO j (by simp [bG]))
    (fun j bG=>by
      rcases List.mem_append.1 bG with h | h
      · exact IK j h
      · simp only [List.mem_singleton] at h;subst h;exact yO j (by simp)) (by simpa using lq)
    (fun cI kf=>by
      rcases List.mem_append.1 kf with h | h
      · obtain ⟨j,bG,r⟩:=pA cI h
        exact ⟨j,by simp [bG],r⟩
      · simp only [List.mem_singleton] at h;subst h
        exact ⟨i,by simp,m,⟨o,aP,hm⟩,az.symm⟩) (by rw [ae.dH,if_pos rfl])
   have Jp:=Ab (os:=fJ ops τ) f_ (by rw [aV];exact g1)
   rw [show o::fJ ops τ=fJ ops (i::τ) from by simp [fJ,aP]] at Jp
   refine ⟨_,⟨(bA A.k).run (cX gY (bO ops o)),(bA A.x).run (cX gY (bO ops o)),c⟩::ms,fB,hY,Jp,by rw [g2,List.append_assoc];rfl,fun k az=>?_,fun k=>?_,fun cN dx k az=>?_,.cons ⟨m,⟨o,aP,hm⟩,az.symm,ao.symm⟩ g5⟩
   · rw [g3 k az,ae.dH,if_neg az]
   · rw [g4]
     unfold ae.set
     simp only [T.Lx]
   · rcases List.mem_cons.1 dx with rfl | dx
     · rfl
     · rw [g6 cN dx k az,ae.dH,if_neg az]
def mP (E:Env):List (V × V)→List MapEntry→Prop
 | [],l=>l=[]
 | p::a',l=>∃e es,l=e::es∧Rel E p.1 e.key∧Rel E p.2 e.val∧mP E a' es
theorem mP.perm {E:Env} {a' hH:List (V × V)} (h:a'.Perm hH):∀{l:List MapEntry},mP E hH l→∃dY,mP E a' dY∧dY.Perm l:=by
 induction h with
 | nil=>intro l h;exact ⟨l,h,.refl _⟩
 | cons x _ bh=>
   intro l h
   obtain ⟨e,es,rfl,U,ad,aI⟩:=h
   obtain ⟨dY,g1,g2⟩:=bh aI
   exact ⟨e::dY,⟨e,dY,rfl,U,ad,g1⟩,g2.cons e⟩
 | swap x y im=>
   intro l h
   obtain ⟨e,es,rfl,U,ad,cN,l5,rfl,aI,bq,ct⟩:=h
   exact ⟨cN::e::l5,⟨cN,_,rfl,aI,bq,e,l5,rfl,U,ad,ct⟩,List.Perm.swap _ _ _⟩
 | trans _ _ VJ VK=>
   intro l h
   obtain ⟨e3,g1,g2⟩:=VK h
   obtain ⟨hi,g3,g4⟩:=VJ g1
   exact ⟨hi,g3,g4.trans g2⟩
theorem mP.KQ {E:Env}:∀{ms:List bW} {l:List MapEntry},df E ms l→mP E (ms.map fun m=>(m.k,m.v)) l
 | [],l,h=>h
 | m::ms,l,h=>by
   obtain ⟨e,es,rfl,U,ad,_,bq⟩:=h
   exact ⟨e,es,rfl,U,ad,mP.KQ bq⟩
theorem iv.KR {E:Env}:∀{ms:List bW} {l:List MapEntry},mP E (ms.map fun m=>(m.k,m.v)) l→iv E ms l
 | [],l,h=>h
 | m::ms,l,h=>by
   obtain ⟨e,es,rfl,U,ad,bq⟩:=h
   exact ⟨e,es,rfl,U,ad,iv.KR bq⟩
theorem aW.forget {au:Fr} {E:Env} {h:ae} {w:World} (s:aW au E h w) {b:aN} {p:gO} {es ms:List bW} {c:Nat} (aD:h.get b=.mp es c) (ag:E b=some p) (fj:(ms.map fun m=>(m.k,m.v)).Perm (es.map fun m=>(m.k,m.v))):
 aW au E (h.set b (.gb ms)) w:=by
 have af:=s.at ag
 rw [aD] at af
 obtain ⟨p',a,fv,cS,a8,hm⟩:=af
 rw [ag] at fv;cases fv
 obtain ⟨l,g1,g2⟩:=mP.perm fj (mP.KQ hm)
 exact s.set (by rw [aD];rfl) ag cS (Nat.le_refl _) (fun _ _=>rfl) rfl rfl rfl (fun _ _ _ e=>by cases e) ⟨p,a,c,l,ag,cS,a8,iv.KR g1,g2⟩
theorem JP:∀(l:List Oper),(∀o ∈ l,o.dst=none)→∀{r cv:bp} {h ax:ae} {es:List dS},(et P an ops l).run call r h=.ok es cv ax→∀o ∈ l,∃v H1 cR,(b8 P an ops o).run call r H1=.val v cR
 | [],_,_,_,_,_,_,_,o,aP=>by simp at aP
 | x::xs,aV,r,cv,h,ax,es,he,o,aP=>by
   obtain ⟨v,U,fO,ai,ay,rfl⟩:=Aa he
   rcases List.mem_cons.1 aP with rfl | aP
   · exact ⟨v,h,U,ai⟩
   · rw [aV x (by simp)] at ay
     exact JP xs (fun bR fQ=>aV bR (by simp [fQ])) ay o aP
theorem Yy {t:TypeId} {H H1:ae} {c:aN} {off:Nat} (h:H.get c=H1.get c):(mz P t).run H (.ptr c off)=(mz P t).run H1 (.ptr c off):=by
 unfold mz
 cases aX P t with
 | none=>rfl
 | some aL=>
   simp only
   cases aL.agg with
   | true=>simp only [cond_true,km,V.hl,h]
   | false=>
     simp only [cond_false]
     cases Nat.beq aL.size 1 with
     | true=>simp only [cond_true,kn,V.hl,h]
     | false=>rfl
theorem R5 {o:Oper} {t:TypeId} {x:Operand} (aP:o.op=.load t x) (aD:o.guard=none) {r:bp} {H1 aa:ae} {v:V} (he:(b8 P an ops o).run call r H1=.val v aa) {c:aN} {off:Nat} (ao:(bA x).run (cX r (bO ops o))=.ptr c off)
 (H:ae) (iA:H.get c=H1.get c):(b8 P an ops o).run call r H=.val v H:=by
 obtain ⟨U,ad⟩:=h2 he
 have key:b8 P an ops o=⟨gR none (eb P o) (bO ops o)⟩:=by
  unfold b8
  rw [show (ed an o.dst&&il (bO ops o))=true from by rw [U,ad];rfl,aD]
  rfl
 rw [key] at he ⊢
 simp only [gR] at he ⊢
 have q2:∀H,(eb P o).run call (cX r (bO ops o)) H=aT.of H ((mz P t).run H (.ptr c off)):=by
  intro H
  unfold eb
  rw [aP]
  simp only [ao]
 rw [q2] at he ⊢
 rw [Yy iA]
 exact aT.rM he H
theorem Kp {es:List dS} {h:ae} {b:aN}:∀{is:List Nat} {p:Nat},v' P ops es h b call an is p=true→∀q i o t x,is[q]? =some i→ops[i]? =some o→o.op=.load t x→
 ∃e c off aa,es[p+q]? =some e∧(bA x).run (cX e.r (bO ops o))=.ptr c off∧c≠b∧o.guard=none∧(b8 P an ops o).run call e.r h=.val e.v aa
 | [],_,_,q,i,o,t,x,h,_,_=>by simp at h
 | j::V7,p,aj,q,i,o,t,x,aE,aP,jK=>by
   simp only [v'] at aj
   cases q with
   | succ q=>
     cases bG:ops[j]? with
     | none=>rw [bG] at aj;cases aj
     | some adN=>
       rw [bG] at aj
       simp only [Bool.and_eq_true] at aj
       have:=Kp aj.2 q i o t x (by simpa using aE) aP jK
       rw [show p + (q+1)=p+1+q from by omega]
       exact this
   | zero=>
     simp only [List.getElem?_cons_zero,Option.some.injEq] at aE
     subst aE
     rw [aP] at aj
     simp only [Bool.and_eq_true] at aj
     have U:=aj.1
     rw [jK] at U
     simp only at U
     rw [Nat.add_zero]
     cases he:es[p]? with
     | none=>rw [he] at U;cases U
     | some e=>
       rw [he] at U
       simp only at U
       cases ao:(bA x).run (cX e.r (bO ops o))<;>rw [ao] at U<;>simp only at U<;>try (cases U;done)
       rename_i c off
       simp only [Bool.and_eq_true,Bool.not_eq_true'] at U
       cases aD:o.guard with
       | some _=>rw [aD] at U;cases U.2
       | none=>
         rw [aD] at U
         simp only at U
         have ad:=U.2
         cases aH:(b8 P an ops o).run call e.r h with
         | fail=>rw [aH] at ad;cases ad
         | b' _ _=>rw [aH] at ad;cases ad
         | val v aa=>
           rw [aH] at ad
           have bw:=Cm ad
           exact ⟨e,c,off,aa,rfl,ao,(fun e=>by rw [e,aN.u4] at U;cases U.1),rfl,by rw [aH,bw]⟩
theorem tu {k:Nat}:∀{l:List Nat} {p:Nat},l.Nodup→l[p]? =some k→l.idxOf k=p
 | [],_,_,h=>by simp at h
 | x::xs,p,a7,h=>by
   rw [List.nodup_cons] at a7
   cases p with
   | zero=>
     simp only [List.getElem?_cons_zero,Option.some.injEq] at h
     subst h
     simp
   | succ p=>
     have ao:xs[p]? =some k:=by simpa using h
     have c2:x≠k:=fun e=>a7.1 (e ▸ List.mem_of_getElem? ao)
     rw [List.idxOf_cons]
     simp only [beq_iff_eq,c2,cond_false,show (x == k)=false from by simpa using c2]
     rw [tu a7.2 ao]
def jO (ops:Array Oper) (i:Nat):Bool:=
 match ops[i]? with
 | some o=>iE o
 | none=>false
theorem yV {o:Oper} {A:sc} (h:je o=some A):iE o=true∧dU P o.op=true∧e_ o=false:=by
 obtain ⟨aP,_,_⟩:=vM h
 refine ⟨by unfold iE;rw [aP],by rw [aP];rfl,by unfold e_;rw [aP]⟩
theorem Ys {aA:List Nat} {cd c8:Nat} {t:TypeId} (ax:v8 P ops aA cd c8 t=true):∀i o,ops[i]? =some o→∃ch,(dM [] ops.toList)[i]? =some ch∧jS i o=true∧
 (∀k ok,ops[k]? =some ok→∃mk,(dM [] ops.toList)[k]? =some mk∧lG i ch (bO ops o) o.dst k mk ok (Nat.blt (posOf aA k) (posOf aA i))=true)∧
 (posOf aA i<cd→iE o=false∧dj P o=false∧(looks o.op=true→dU P o.op=false→∃t x,o.op=.load t x))∧
 (¬posOf aA i<cd→posOf aA i<c8→∃A,je o=some A∧A.t=t)∧
 (¬posOf aA i<cd→¬posOf aA i<c8→dU P o.op=false∧looks o.op=false):=by
 unfold v8 at ax
 simp only [Bool.and_eq_true] at ax
 replace ax:=ax.2
 intro i o aC
 obtain ⟨ch,U,ad⟩:=mL ax i o (by simpa using aC)
 simp only [Nat.zero_add,Bool.and_eq_true] at ad
 obtain ⟨⟨aI,bq⟩,ct⟩:=ad
 refine ⟨ch,U,aI,fun k ok az=>?_,fun aO=>?_,fun hy aO=>?_,fun hy Ui=>?_⟩
 · obtain ⟨mk,b6,cz⟩:=mL bq k ok (by simpa using az)
   simp only [Nat.zero_add] at cz
   exact ⟨mk,b6,cz⟩
 · rw [show Nat.blt (posOf aA i) cd=true from by rw [Nat.blt_eq];exact aO] at ct
   simp only [cond_true,Bool.and_eq_true,Bool.not_eq_true',Bool.or_eq_true] at ct
   refine ⟨ct.1.1,ct.1.2,fun aj he=>?_⟩
   rcases ct.2 with (h | h) | h
   · rw [aj] at h;cases h
   · rw [he] at h;cases h
   · cases jK:o.op<;>rw [jK] at h<;>simp only at h<;>first
      | (cases h;done)
      | exact ⟨_,_,rfl⟩
 · rw [show Nat.blt (posOf aA i) cd=false from by rw [←Bool.not_eq_true,Nat.blt_eq];exact hy,show Nat.blt (posOf aA i) c8=true from by rw [Nat.blt_eq];exact aO] at ct
   simp only [cond_true,cond_false] at ct
   cases bm:je o with
   | none=>rw [bm] at ct;cases ct
   | some A=>rw [bm] at ct;exact ⟨A,rfl,Nat.eq_of_beq_eq_true ct⟩
 · rw [show Nat.blt (posOf aA i) cd=false from by rw [←Bool.not_eq_true,Nat.blt_eq];exact hy,show Nat.blt (posOf aA i) c8=false from by rw [←Bool.not_eq_true,Nat.blt_eq];exact Ui] at ct
   simp only [cond_false,Bool.and_eq_true,Bool.not_eq_true'] at ct
   exact ct
theorem Yt {order:List Nat} {es:List dS} {cd:Nat} {b:aN} {gY:bp} {A:sc} (h:y8 ops order es cd=some (b,gY,A)):
 ∃e i o,es[cd]? =some e∧order[cd]? =some i∧ops[i]? =some o∧je o=some A∧e.r=gY:=by
 unfold y8 at h
 cases he:es[cd]? with
 | none=>rw [he] at h;cases h
 | some e=>
   rw [he] at h
   simp only at h
   cases aC:order[cd]? with
   | none=>rw [aC] at h;cases h
   | some i=>
     rw [aC] at h
     simp only at h
     cases aP:ops[i]? with
     | none=>rw [aP] at h;cases h
     | some o=>
       rw [aP] at h
       simp only at h
       cases bm:je o with
       | none=>rw [bm] at h;cases h
       | some hL=>
         rw [bm] at h
         simp only at h
         cases hm:(bA hL.m).run (cX e.r (bO ops o))<;>rw [hm] at h<;>simp only at h<;>try (cases h;done)
         simp only [Option.some.injEq,Prod.mk.injEq] at h
         obtain ⟨_,ad,rfl⟩:=h
         exact ⟨e,i,o,rfl,rfl,aP,bm,ad⟩
theorem Kw {r:bp} {b:aN} {f:Nat→V × V} (ax:∀i m,iq ops r b i m→f i=(m.k,m.v)):∀{is:List Nat} {ms:List bW},lQ (fun i (m:bW)=>∃cI,iq ops r b i cI∧m.k=cI.k∧m.v=cI.v) is ms→ms.map (fun m=>(m.k,m.v))=is.map f
 | _,_,.nil=>rfl
 | _,_,.cons (a:=i) (b:=m) a6 aB=>by
   obtain ⟨cI,U,ad,aI⟩:=a6
   simp only [List.map_cons,Kw ax aB,ax i cI U,ad,aI]
theorem tS {n:Nat} {order aA:List Nat} (fj:jo n order aA=true) {p i:Nat} (h:order[p]? =some i):posOf aA i=p∧i<n:=by
 unfold jo at fj
 simp only [Bool.and_eq_true,Nat.beq_eq] at fj
 obtain ⟨_,ad,_,bq⟩:=fj
 have:=p3 bq h
 rw [Nat.zero_add] at this
 refine ⟨by unfold posOf;rw [this];rfl,?_⟩
 have:=(List.getElem?_eq_some_iff.1 this).1
 omega
theorem Y6 {l:List Nat} {f:Nat→Nat} (h:∀p i,l[p]? =some i→f i=p):l.Nodup:=by
 rw [List.Nodup,List.pairwise_iff_getElem]
 intro i j aC bG nd he
 have U:=h i _ (List.getElem?_eq_getElem aC)
 have ad:=h j _ (List.getElem?_eq_getElem bG)
 rw [he,ad] at U
 omega
theorem lQ.left {α β:Type} {R:α→β→Prop}:∀{e3:List α} {hi:List β},lQ R e3 hi→∀x ∈ e3,∃y ∈ hi,R x y
 | _,_,.nil,x,h=>by simp at h
 | _,_,.cons a6 aB,x,h=>by
   rcases List.mem_cons.1 h with rfl | h
   · exact ⟨_,by simp,a6⟩
   · obtain ⟨y,U,ad⟩:=aB.left x h
     exact ⟨y,by simp [U],ad⟩
theorem V4 {o:Oper} (h:iE o=true):dU P o.op=true∧e_ o=false:=by
 unfold iE at h
 unfold e_
 cases aP:o.op<;>rw [aP] at h<;>simp only at h<;>first
  | (cases h;done)
  | exact ⟨rfl,rfl⟩
theorem abS {pre σ post:List Nat} (lq:(pre++(σ++post)).Nodup) (k q:Nat):(pre[q]? =some k→(pre++(σ++post)).idxOf k=q)∧(σ[q]? =some k→(pre++(σ++post)).idxOf k=pre.length+q)∧(post[q]? =some k→(pre++(σ++post)).idxOf k=pre.length+σ.length+q):=by
 refine ⟨fun h=>tu lq ?_,fun h=>tu lq ?_,fun h=>tu lq ?_⟩
 · have:=(List.getElem?_eq_some_iff.1 h).1
   rw [List.getElem?_append_left this]
   exact h
 · have:=(List.getElem?_eq_some_iff.1 h).1
   rw [List.getElem?_append_right (by omega),Nat.add_sub_cancel_left,List.getElem?_append_left this]
   exact h
 · rw [List.getElem?_append_right (by omega),List.getElem?_append_right (by omega)]
   rw [show pre.length+σ.length+q-pre.length-σ.length=q from by omega]
   exact h
theorem Yv {rd:Option Nat} {D:List Deferred} {au:Fr} {calls:Nat→c4} {es:List dS} {bx:bp} {a6:ae} {cv:bp} {ax:ae} {dE order aA:List Nat} (bt:dJ P) (cp:∀i,fe P (calls i)) (cZ:∀i,fp P (calls i))
 (C:Cert P an ops calls es bx a6 cv ax dE order aA ops.size ops.size true) {gf:Env} {Q:Exit→Act→World→Prop}
 (cP:∀ar bf ak,gf.le ar→RegRel0 ar an cv bf→bf.defers=D→aW au ar ax ak→Q .normal bf ak) {so:List Nat}
 (ft:∀i k,jO ops i=true→jO ops k=true→posOf aA k<posOf aA i→∀a b,so=a++i::b→k ∈ a):
 ∀(fuel t:Nat) (listed:Array Bool) (done:List Nat) (a:Act) (w:World),so=done++Region.linearise.go .any ops fuel t listed []→(∀k,k<ops.size→(listed.getD k false=true↔k ∈ done))→
  (List.range ops.size).countP (fun i=>!listed.getD i false)≤fuel→mM P au an ops es bx ax dE aA gf ops.size D listed a w→wpOpsIn (bQ rd) 0 P ops Q (Region.linearise.go .any ops fuel t listed []) a w:=by
 have gx:∀i o,ops[i]? =some o→jS i o=true:=fun i o h=>by obtain ⟨_,_,ad,_⟩:=C.j_ i o h;exact ad
 have fin:∀(listed:Array Bool) (a:Act) (w:World),(∀k,k<ops.size→listed.getD k false=true)→mM P au an ops es bx ax dE aA gf ops.size D listed a w→Q .normal a w:=by
  intro listed a w cT I
  obtain ⟨ar,g1,g2,g3,g4⟩:=Ht C (Nat.le_refl _) I fun k az _=>cT k az
  exact cP ar a w g1 g2 g3 g4
 intro fuel
 induction fuel with
 | zero=>
   intro t listed done a w ob Di aq I
   have a6:(List.range ops.size).countP (fun i=>!listed.getD i false)=0:=by omega
   rw [List.countP_eq_zero] at a6
   exact fin listed a w (fun k az=>by simpa using a6 k (List.mem_range.2 az)) I
 | succ fuel bh=>
   intro t listed done a w ob Di aq I
   rw [go_succ] at ob ⊢
   cases aH:rT ops t listed with
   | none=>exact fin listed a w (fun k az=>tY gx I.oF (LF aH) k az) I
   | some i=>
     rw [aH] at ob
     simp only at ob ⊢
     obtain ⟨i1,i2⟩:=rU I.oF (E4 aH)
     have aj:i<listed.size:=by rw [I.oF];exact i1
     have adi:=count_set I.oF i1 i2
     rw [wpOpsIn_cons]
     refine HC bt cp cZ C I (E4 aH) (C.gp i i1).1 (fun _ o k ok b0 ra yy Uv aO=>?_) (fun bf ak Aw=>bh _ _ (done++[i]) bf ak (by rw [List.append_assoc];exact ob) (fun k az=>?_) (by omega) Aw) (fun _ _ _ _ _ _ _ h=>absurd h (Nat.lt_irrefl _))
     · have az:k<ops.size:=(Array.getElem?_eq_some_iff.1 yy).1
       exact (Di k az).2 (ft i k (by unfold jO;rw [b0];exact ra) (by unfold jO;rw [yy];exact Uv) aO _ _ ob)
     · rw [eB aj,Di k az,List.mem_append,List.mem_singleton]
       exact Or.comm
noncomputable def Ci (ops:Array Oper) (r:bp) (b:aN) (i:Nat):V × V:=
 match ops[i]? with
 | some o=>(match pN ops r b o with
   | some m=>(m.k,m.v)
   | none=>(.bad,.bad))
 | none=>(.bad,.bad)
theorem HJ {r:bp} {b:aN} {i:Nat} {m:bW} (h:iq ops r b i m):Ci ops r b i=(m.k,m.v):=by
 obtain ⟨o,U,ad⟩:=h
 unfold Ci
 rw [U]
 simp only [ad]
theorem Kx {r:bp} {b:aN}:∀{is:List Nat} {ms:List bW},lQ (iq ops r b) is ms→ms.map (fun m=>(m.k,m.v))=is.map (Ci ops r b)
 | _,_,.nil=>rfl
 | _,_,.cons a6 aB=>by
   simp only [List.map_cons,Kx aB,HJ a6]
set_option maxHeartbeats 1000000 in
theorem Yw {rd:Option Nat} {au:Fr} {E:Env} {h:ae} {w:World} {id:Nat} (cO:P.follows .mixedOrders=true) (bt:dJ P) (cp:fe P call) (cZ:fp P call) {r:bp} {a:Act} {order aA:List Nat} {cd c8:Nat} (fj:jo ops.size order aA=true)
 {Q:Exit→Act→World→Prop} (ag:kD au E an (Q .normal) Q (Eg P an ops order aA cd c8 (et P an ops (fJ ops order)) call r h)) (k:ei E an r a) (s:aW au E h w):(Code.region id ops true).wpIn (bQ rd) 0 P Q a w:=by
 unfold Eg at ag
 cases cu:(et P an ops (fJ ops order)).run call r h with
 | fail=>rw [cu] at ag;exact ag.elim
 | b' _ _ _ _ _=>rw [cu] at ag;exact ag.elim
 | ok es eg a8=>
 rw [cu] at ag
 simp only at ag
 cases mj:y8 ops order es cd with
 | none=>rw [mj] at ag;exact ag.elim
 | some x=>
 obtain ⟨b,gY,A⟩:=x
 rw [mj] at ag
 simp only at ag
 cases iC:(bT es a8 cd).get b<;>rw [iC] at ag<;>try (exact False.elim ag)
 rename_i Sl xJ
 cases Sl with
 | cons _ _=>exact False.elim ag
 | nil=>
 simp only at ag
 cases ta:rD ops gY b ((order.drop cd).take (c8-cd)) with
 | none=>rw [ta] at ag;exact ag.elim
 | some ms=>
 rw [ta] at ag
 simp only at ag
 cases aq:(v8 P ops aA cd c8 A.t&&(uI (pP P A.t) ms&&(v' P ops es (bT es a8 cd) b call an (order.take cd) 0&&u6 ((bA A.m).run eg) (.map b)))) with
 | false=>rw [aq] at ag;exact ag.elim
 | true=>
 rw [aq] at ag
 simp only [cond_true] at ag
 simp only [Bool.and_eq_true] at aq
 obtain ⟨yz,yl,dL,oj⟩:=aq
 have oj:=Cm oj
 obtain ⟨lr,Lg,adQ⟩:=La fj
 have Du:order.Nodup:=Y6 fun p i h=>(tS fj h).1
 obtain ⟨cE,i0,gK,CW,q_,UT,va,Ue⟩:=Yt mj
 obtain ⟨aad,-,-,-⟩:=qd cu
 have hlen:es.length=ops.size:=by rw [aad,mB,lr]
 have gU:cd<ops.size:=by rw [←lr];exact (List.getElem?_eq_some_iff.1 q_).1
 have j_:=Ys yz
 generalize nh:order.take cd=pre at dL
 generalize ra:(order.drop cd).take (c8-cd)=ins at ta
 generalize Jf:(order.drop cd).drop (c8-cd)=post
 have mm:order=pre++(ins++post):=by rw [←nh,←ra,←Jf,List.take_append_drop,List.take_append_drop]
 have te:pre.length=cd:=by rw [←nh,List.length_take];omega
 have adp:cd<c8:=by
  obtain ⟨rl,_⟩:=tS fj q_
  rcases Nat.lt_or_ge cd c8 with h | h
  · exact h
  · exfalso
    obtain ⟨_,_,_,_,_,_,f3⟩:=j_ i0 gK UT
    obtain ⟨ao,_⟩:=f3 (by omega) (by omega)
    rw [(yV (P:=P) va).2.1] at ao
    cases ao
 have Us:ins.length=c8-cd∨post=[]:=by
  rcases Nat.lt_or_ge (c8-cd) (order.drop cd).length with h | h
  · left;rw [←ra,List.length_take];omega
  · right;rw [←Jf];exact List.drop_eq_nil_of_le h
 have A7:∀q i,pre[q]? =some i→posOf aA i=q∧i<ops.size∧q<cd:=by
  intro q i h
  have aE:=(List.getElem?_eq_some_iff.1 h).1
  obtain ⟨U,ad⟩:=tS fj (p:=q) (i:=i) (by rw [mm,List.getElem?_append_left aE];exact h)
  exact ⟨U,ad,by omega⟩
 have A5:∀q i,ins[q]? =some i→posOf aA i=cd+q∧i<ops.size∧cd+q<c8:=by
  intro q i h
  have aE:=(List.getElem?_eq_some_iff.1 h).1
  obtain ⟨U,ad⟩:=tS fj (p:=cd+q) (i:=i) (by
   rw [mm,List.getElem?_append_right (by omega),te,Nat.add_sub_cancel_left,List.getElem?_append_left aE];exact h)
  refine ⟨U,ad,?_⟩
  have:ins.length≤c8-cd:=by rw [←ra,List.length_take];omega
  omega
 have A6:∀q i,post[q]? =some i→posOf aA i=cd+ins.length+q∧i<ops.size∧ins.length=c8-cd:=by
  intro q i h
  have aj:ins.length=c8-cd:=by
   rcases Us with aa | aa
   · exact aa
   · rw [aa] at h;simp at h
  obtain ⟨U,ad⟩:=tS fj (p:=cd+ins.length+q) (i:=i) (by
   rw [mm,List.getElem?_append_right (by omega),List.getElem?_append_right (by omega),te,show cd+ins.length+q-cd-ins.length=q from by omega];exact h)
  exact ⟨U,ad,aj⟩
 have MM:∀i,i<ops.size→(∃q:Nat,pre[q]? =some i)∨(∃q:Nat,ins[q]? =some i)∨∃q:Nat,post[q]? =some i:=by
  intro i aC
  have hm:i ∈ order:=List.mem_of_getElem? (Lg i aC).2
  rw [mm,List.mem_append,List.mem_append] at hm
  rcases hm with h | h | h
  · exact .inl (List.mem_iff_getElem?.1 h)
  · exact .inr (.inl (List.mem_iff_getElem?.1 h))
  · exact .inr (.inr (List.mem_iff_getElem?.1 h))
 have EW:∀i o,i ∈ pre→ops[i]? =some o→iE o=false∧dj P o=false∧(looks o.op=true→dU P o.op=false→∃t x,o.op=.load t x):=by
  intro i o aC aP
  obtain ⟨q,aE⟩:=List.mem_iff_getElem?.1 aC
  obtain ⟨U,ad,aI⟩:=A7 q i aE
  obtain ⟨_,_,_,_,f1,_,_⟩:=j_ i o aP
  exact f1 (by omega)
 have vN:∀i,i ∈ ins→∃o hL,ops[i]? =some o∧je o=some hL∧hL.t=A.t:=by
  intro i aC
  obtain ⟨q,aE⟩:=List.mem_iff_getElem?.1 aC
  obtain ⟨U,ad,aI⟩:=A5 q i aE
  obtain ⟨_,_,_,_,_,f2,_⟩:=j_ i _ (Array.getElem?_eq_getElem ad)
  obtain ⟨hL,g1,g2⟩:=f2 (by omega) (by omega)
  exact ⟨_,hL,Array.getElem?_eq_getElem ad,g1,g2⟩
 have wE:∀i o,i ∈ post→ops[i]? =some o→dU P o.op=false∧looks o.op=false:=by
  intro i o aC aP
  obtain ⟨q,aE⟩:=List.mem_iff_getElem?.1 aC
  obtain ⟨U,ad,aI⟩:=A6 q i aE
  obtain ⟨_,_,_,_,_,_,f3⟩:=j_ i o aP
  exact f3 (by omega) (by omega)
 have D3:∀i,i<ops.size→(jO ops i=true↔i ∈ ins):=by
  intro i aC
  have b0:ops[i]? =some ops[i]:=Array.getElem?_eq_getElem aC
  constructor
  · intro h
    unfold jO at h
    rw [b0] at h
    simp only at h
    rcases MM i aC with ⟨q,aE⟩ | ⟨q,aE⟩ | ⟨q,aE⟩
    · rw [(EW i _ (List.mem_of_getElem? aE) b0).1] at h;cases h
    · exact List.mem_of_getElem? aE
    · have:=(wE i _ (List.mem_of_getElem? aE) b0).1
      rw [(V4 (P:=P) h).1] at this
      cases this
  · intro h
    obtain ⟨o,hL,g1,g2,_⟩:=vN i h
    unfold jO
    rw [g1]
    exact (yV (P:=P) g2).1
 have Dv:ins.Nodup:=by
  rw [mm] at Du
  exact (List.nodup_append.1 (List.nodup_append.1 Du).2.1).1
 have vB:=cu
 rw [mm,wq,wq] at vB
 obtain ⟨fO,bs,U,Sm,ot,Jh,lo⟩:=Fq _ _ vB
 obtain ⟨mW,cV,ad,Cn,ja,U5,adj⟩:=Fq _ _ Jh
 obtain ⟨e3,-,-,-⟩:=qd ot
 rw [mB,te] at e3
 obtain ⟨-,bL,bH,-⟩:=qd Jh
 have IM:Sm[0]? =some cE:=by
  rw [lo,List.getElem?_append_right (by omega),e3,Nat.sub_self] at CW
  exact CW
 have U7:bs=gY:=by
  unfold dt at bH
  rw [IM] at bH
  exact bH.symm.trans Ue
 have Un:bT es a8 cd=U:=by
  unfold bT at bL ⊢
  rw [CW]
  rw [IM] at bL
  exact bL
 subst U7
 rw [Un] at iC dL
 have oa:∀i ∈ ins,∃o hL m,ops[i]? =some o∧je o=some hL∧(vS P hL.t=true∧pP P hL.t=pP P A.t)∧pN ops bs b o=some m∧∃v H1 cR,(b8 P an ops o).run call bs H1=.val v cR:=by
  intro i aC
  obtain ⟨o,hL,g1,g2,g3⟩:=vN i aC
  obtain ⟨m,_,bR,g4,g5⟩:=(yT ta).left i aC
  rw [g1] at g4;cases g4
  refine ⟨o,hL,m,g1,g2,⟨by rw [g3];unfold v8 at yz;rw [Bool.and_eq_true] at yz;exact yz.1,by rw [g3]⟩,g5,JP (fJ ops ins) (fun cD tb=>?_) ja o ?_⟩
  · obtain ⟨q,aE⟩:=List.mem_iff_getElem?.1 tb
    have pH:q<ins.length:=by rw [←mB (ops:=ops)];exact (List.getElem?_eq_some_iff.1 aE).1
    obtain ⟨adJ,wX,vQ,rE,_⟩:=vN _ (List.getElem_mem pH)
    have:=kq (List.getElem?_eq_getElem pH) vQ
    rw [aE] at this;cases this
    exact (vM rE).2.1
  · obtain ⟨q,aE⟩:=List.mem_iff_getElem?.1 aC
    exact List.mem_of_getElem? (kq aE g1)
 have ym:=Gk (yT ta) Dv yl
 obtain ⟨ac4,adG,acW,jX,Cw,ac9,ac',SV,_,ac_⟩:=D5 oa ym ins [] [] xJ U (fun i aC=>aC) (fun i aC=>by simp at aC) (by simpa using Dv) (fun m hm=>by simp at hm) iC
 rw [ja] at Cw
 simp only [mN.ok.injEq] at Cw
 obtain ⟨-,U4,TD⟩:=Cw
 subst U4 TD
 obtain ⟨C_,U3⟩:=LA (fJ ops post) (fun cD tb=>by
  obtain ⟨q,aE⟩:=List.mem_iff_getElem?.1 tb
  have pH:q<post.length:=by rw [←mB (ops:=ops)];exact (List.getElem?_eq_some_iff.1 aE).1
  obtain ⟨_,IX,_⟩:=A6 q _ (List.getElem?_eq_getElem pH)
  have:=kq (List.getElem?_eq_getElem pH) (Array.getElem?_eq_getElem IX)
  rw [aE] at this;cases this
  exact wE _ _ (List.getElem_mem pH) (Array.getElem?_eq_getElem IX)) U5
 subst C_
 refine wpIn_region_draw fun t=>?_
 simp only [Region.schedule,cO,Bool.true_or,if_true]
 have gx:∀i o,ops[i]? =some o→jS i o=true:=fun i o h=>by obtain ⟨_,_,ad,_⟩:=j_ i o h;exact ad
 have cU:∀k,¬(Array.replicate ops.size false).getD k false=true:=by
  intro k
  rw [ps,Array.getElem?_replicate]
  split<;>simp
 obtain ⟨s1,s2,wM⟩:=Ik (ops:=ops) gx ops.size t (Array.replicate ops.size false) (by simp) (Nat.le_trans List.countP_le_length (by simp))
 change wpOpsIn (bQ rd) 0 P ops Q (Region.linearise.go .any ops ops.size t (Array.replicate ops.size false) []) a {w with drawn:=w.drawn+1}
 generalize ob:Region.linearise.go .any ops ops.size t (Array.replicate ops.size false) []=so at s1 s2 wM
 generalize D1:so.filter (jO ops)=σ
 have Eo:∀k,k ∈ σ↔k ∈ ins:=by
  intro k
  rw [←D1,List.mem_filter]
  constructor
  · rintro ⟨g1,g2⟩
    exact (D3 k (s2 k g1).1).1 g2
  · intro g
    obtain ⟨q,aE⟩:=List.mem_iff_getElem?.1 g
    have az:=(A5 q k aE).2.1
    refine ⟨?_,(D3 k az).2 g⟩
    rcases wM k az with h | h
    · exact absurd h (cU k)
    · exact h
 have I_:σ.Nodup:=by rw [←D1];exact s1.filter _
 have DE:σ.Perm ins:=(List.perm_ext_iff_of_nodup I_ Dv).2 Eo
 have JC:σ.length=ins.length:=DE.length_eq
 have i_:(pre++(σ++post)).Perm order:=by
  rw [mm]
  exact (DE.append_right post).append_left pre
 have Dw:(pre++(σ++post)).Nodup:=i_.nodup_iff.2 Du
 have vo:(pre++(σ++post)).length=ops.size:=by rw [i_.length_eq,lr]
 have xx:=abS Dw
 generalize UZ:(List.range ops.size).map (fun k=>(pre++(σ++post)).idxOf k)=ig
 have td:∀k,k<ops.size→posOf ig k=(pre++(σ++post)).idxOf k:=by
  intro k az
  rw [←UZ]
  unfold posOf
  rw [List.getElem?_map,List.getElem?_range az]
  rfl
 have wz:∀i,i<ops.size→i ∈ pre→posOf ig i=posOf aA i∧posOf aA i<cd:=by
  intro i aC hm
  obtain ⟨q,aE⟩:=List.mem_iff_getElem?.1 hm
  obtain ⟨g1,_,g3⟩:=A7 q i aE
  rw [td i aC,(xx i q).1 aE,g1]
  exact ⟨rfl,g3⟩
 have wy:∀i,i<ops.size→i ∈ ins→∃q:Nat,σ[q]? =some i∧posOf ig i=cd+q∧q<ins.length∧cd≤posOf aA i∧posOf aA i<cd+ins.length:=by
  intro i aC hm
  obtain ⟨q,aE⟩:=List.mem_iff_getElem?.1 ((Eo i).2 hm)
  obtain ⟨dK,mq⟩:=List.mem_iff_getElem?.1 hm
  obtain ⟨g1,_,g3⟩:=A5 dK i mq
  have:=(List.getElem?_eq_some_iff.1 aE).1
  have:=(List.getElem?_eq_some_iff.1 mq).1
  exact ⟨q,aE,by rw [td i aC,(xx i q).2.1 aE,te],by omega,by omega,by omega⟩
 have EP:∀i,i<ops.size→i ∈ post→posOf ig i=posOf aA i∧cd+ins.length≤posOf aA i:=by
  intro i aC hm
  obtain ⟨q,aE⟩:=List.mem_iff_getElem?.1 hm
  obtain ⟨g1,_,_⟩:=A6 q i aE
  rw [td i aC,(xx i q).2.2 aE,g1,JC,te]
  exact ⟨rfl,by omega⟩
 have cls:∀i,i<ops.size→i ∈ pre∨i ∈ ins∨i ∈ post:=by
  intro i aC
  rcases MM i aC with ⟨q,aE⟩ | ⟨q,aE⟩ | ⟨q,aE⟩
  · exact .inl (List.mem_of_getElem? aE)
  · exact .inr (.inl (List.mem_of_getElem? aE))
  · exact .inr (.inr (List.mem_of_getElem? aE))
 obtain ⟨qR,adH,B1,uz,Ic,SW,SX,SY,S0,SZ⟩:=D5 oa ym σ [] [] xJ U (fun i aC=>(Eo i).1 aC) (fun i aC=>by simp at aC) (by simpa using I_) (fun m hm=>by simp at hm) iC
 obtain ⟨sK,U6⟩:=U3 uz
 have Jl:=Fs _ _ ot (Fs _ _ Ic U6)
 rw [←wq,←wq] at Jl
 obtain ⟨X1,-,-,-⟩:=qd Ic
 rw [mB,JC] at X1
 obtain ⟨ca,z2,z3,z4⟩:=qd Jl
 rw [mB,vo] at ca
 have Lh:∀k,k<ops.size→posOf ig k<ops.size∧(pre++(σ++post))[posOf ig k]? =some k:=by
  intro k az
  have hm:k ∈ pre++(σ++post):=i_.mem_iff.2 (List.mem_of_getElem? (Lg k az).2)
  obtain ⟨q,aE⟩:=List.mem_iff_getElem?.1 hm
  have DF:=tu Dw aE
  rw [td k az,DF]
  have:=(List.getElem?_eq_some_iff.1 aE).1
  exact ⟨by omega,aE⟩
 have ZT:∀p,p<ops.size→∃i,i<ops.size∧posOf ig i=p:=by
  intro p ag
  have aE:(pre++(σ++post))[p]? =some ((pre++(σ++post))[p]'(by omega)):=List.getElem?_eq_getElem _
  have hm:(pre++(σ++post))[p]'(by omega) ∈ order:=i_.mem_iff.1 (List.getElem_mem _)
  obtain ⟨q,tf⟩:=List.mem_iff_getElem?.1 hm
  have aO:=(tS fj tf).2
  exact ⟨_,aO,by rw [td _ aO];exact tu Dw aE⟩
 have Hb:∀j o,ops[j]? =some o→dj P o=true→j ∈ ins:=by
  intro j o aP jD
  rcases cls j (Array.getElem?_eq_some_iff.1 aP).1 with h | h | h
  · rw [(EW j o h aP).2.1] at jD;cases jD
  · exact h
  · unfold dj at jD
    rw [(wE j o h aP).1] at jD
    cases jD
 have D4:∀k ok,k ∈ ins→ops[k]? =some ok→ok.dst=none∧iE ok=true:=by
  intro k ok az bg
  obtain ⟨o,hL,g1,g2,_⟩:=vN k az
  rw [bg] at g1;cases g1
  exact ⟨(vM g2).2.1,(yV (P:=P) g2).1⟩
 have Oc:∀st,st=ops.size∨(∃k,k<ops.size∧k ∈ ins∧st=posOf ig k)→∀c,b≠c→(bT (fO++(qR++sK)) uz st).get c=U.get c:=by
  rintro st (rfl | ⟨k,az,e',rfl⟩) c aq
  · unfold bT
    rw [List.getElem?_eq_none (by omega)]
    exact SX c aq
  · obtain ⟨q,_,g2,g3,_⟩:=wy k az e'
    have DG:q<qR.length:=by omega
    unfold bT
    rw [g2,List.getElem?_append_right (by omega),e3,Nat.add_sub_cancel_left,List.getElem?_append_left DG,List.getElem?_eq_getElem DG]
    exact S0 _ (List.getElem_mem DG) c aq
 have C:Cert P an ops (fun _=>call) (fO++(qR++sK)) r h eg uz (fV P ig 0 ops.toList) (pre++(σ++post)) ig ops.size ops.size true:=by
  refine ⟨ca,Nat.le_refl _,Nat.le_refl _,Lh,ZT,z2,z3,?_,?_,?_,?_,?_,?_,fun h=>absurd h (Nat.lt_irrefl _),fun h=>absurd h (Nat.lt_irrefl _)⟩
  · intro i o aP _
    exact z4 _ o (kq (Lh i (Array.getElem?_eq_some_iff.1 aP).1).2 aP)
  · intro i o b0
    obtain ⟨ch,f1,f2,f3,_⟩:=j_ i o b0
    refine ⟨ch,f1,f2,fun _ k ok bg _=>?_⟩
    obtain ⟨mk,f4,f5⟩:=f3 k ok bg
    have aC:i<ops.size:=(Array.getElem?_eq_some_iff.1 b0).1
    have az:k<ops.size:=(Array.getElem?_eq_some_iff.1 bg).1
    refine ⟨mk,f4,?_,fun he jD aO=>?_⟩
    · by_cases e':k ∈ ins
      · unfold lG
        rw [(D4 k ok e' bg).1]
        simp
      · have af:Nat.blt (posOf ig k) (posOf ig i)=Nat.blt (posOf aA k) (posOf aA i):=by
         rw [Bool.eq_iff_iff,Nat.blt_eq,Nat.blt_eq]
         rcases cls k az with aq | aq | aq
         · obtain ⟨bN,a2⟩:=wz k az aq
           rcases cls i aC with aV | aV | aV
           · obtain ⟨bJ,cg⟩:=wz i aC aV;omega
           · obtain ⟨q,_,cg,h0,j4,j5⟩:=wy i aC aV;omega
           · obtain ⟨bJ,cg⟩:=EP i aC aV;omega
         · exact absurd aq e'
         · obtain ⟨bN,a2⟩:=EP k az aq
           rcases cls i aC with aV | aV | aV
           · obtain ⟨bJ,cg⟩:=wz i aC aV;omega
           · obtain ⟨q,_,cg,h0,j4,j5⟩:=wy i aC aV;omega
           · obtain ⟨bJ,cg⟩:=EP i aC aV;omega
        rw [af]
        exact f5
    · have e':=Hb k ok bg jD
      obtain ⟨adS,_,cg,h0,j4,j5⟩:=wy k az e'
      rcases cls i aC with aV | aV | aV
      · obtain ⟨bN,a2⟩:=wz i aC aV;omega
      · exact .inr ⟨rfl,(D4 i o aV b0).2,(D4 k ok e' bg).2⟩
      · rw [(wE i o aV b0).1] at he;cases he
  · have:=y5 (P:=P) (aA:=ig) (l:=ops.toList) (i:=0)
    simpa using this
  · intro j o g1 g2
    have:=tA (P:=P) (aA:=ig) (i:=0) (j:=j) (l:=ops.toList) (o:=o) (by simpa using g1) g2
    simpa using this
  · intro st cb
    rcases pT cb with h | ⟨j,o,g1,g2,g3⟩
    · exact .inl (.inl (by simpa using h))
    · exact .inr ⟨j,o,by simpa using g1,g2,by simpa using g3⟩
  · intro j o nf aj he _
    have bG:j<ops.size:=(Array.getElem?_eq_some_iff.1 nf).1
    have kL:j ∈ pre:=by
     rcases cls j bG with aV | aV | aV
     · exact aV
     · obtain ⟨bR,hL,g1,g2,_⟩:=vN j aV
       rw [nf] at g1;cases g1
       rw [(yV (P:=P) g2).2.1] at he;cases he
     · rw [(wE j o aV nf).2] at aj;cases aj
    obtain ⟨r2,MR,jK⟩:=(EW j o kL nf).2.2 aj he
    obtain ⟨q,aE⟩:=List.mem_iff_getElem?.1 kL
    obtain ⟨bN,_,a3⟩:=A7 q j aE
    obtain ⟨e,c,off,aa,dp,eF,y3,y4,FM⟩:=Kp dL q j o r2 MR aE nf jK
    have Ub:(fO++(qR++sK))[posOf ig j]? =some e:=by
     rw [(wz j bG kL).1,bN,List.getElem?_append_left (by omega)]
     rw [Nat.zero_add,lo,List.getElem?_append_left (by omega)] at dp
     exact dp
    refine ⟨e,Ub,fun st cb _=>⟨call,_,⟨cp,cZ⟩,R5 jK y4 FM eF _ (Oc st ?_ c fun h=>y3 h.symm)⟩⟩
    rcases pT cb with h | ⟨bl,bR,g1,g2,g3⟩
    · exact .inl (by simpa using h)
    · have yD:ops[bl]? =some bR:=by simpa using g1
      exact .inr ⟨bl,(Array.getElem?_eq_some_iff.1 yD).1,Hb bl bR yD g2,by simpa using g3⟩
 have iX:∀(ar:Env) (bf:Act),E.le ar→bf.defers=a.defers→∀(bo:bp),T.get .bad dT bo=T.get .bad dT r→iR ar (T.get .bad dT bo) bf.defers:=fun ar bf he aV bo oq=>by rw [oq,aV];exact k.defers.mono he
 have yq:T.get .bad dT eg=T.get .bad dT r:=by
  have:=C.Ce ops.size (Nat.le_refl _)
  have Dx:(fO++(qR++sK))[ops.size]? =none:=List.getElem?_eq_none (by omega)
  unfold dt at this
  rw [Dx] at this
  exact this
 have hQ:Holds au au (fO++(qR++sK)) uz ig (hM ops (fO++(qR++sK)) uz ig (Array.replicate ops.size false) 0):=
  ⟨rfl,fun _ _=>rfl,fun k az=>(by obtain ⟨_,_,_,_,a6⟩:=az;omega),fun k bl az=>(by obtain ⟨_,_,_,_,a6⟩:=az;omega)⟩
 obtain ⟨fK,de,g1,g2,g3,g4,g5,g6⟩:=C.advance ops.size 0 (by omega) (fun k o _ _ _=>cU k) au hQ (E:=E) (w:={w with drawn:=w.drawn}) (by rw [C.a6];exact s.same rfl rfl rfl rfl)
 rw [←ob]
 refine Yv (au:=au) bt (fun _=>cp) (fun _=>cZ) C (gf:=E) (D:=a.defers) (so:=so) (fun ar bf ak ai ay aK bE=>?_) (fun i k aC az aO bf bz TN=>?_) ops.size t _ [] a _ (by rw [ob];rfl) (fun k _=>⟨fun h=>absurd h (cU k),fun h=>by simp at h⟩) (Nat.le_trans List.countP_le_length (by simp)) ?_
 · refine ag ar bf ak ai ⟨ay,iX ar bf ai aK eg yq⟩ ?_
   have hS:=c7 ay A.m
   rw [oj] at hS
   simp only [Rel] at hS
   obtain ⟨p,TC,_⟩:=hS
   rw [SV,←SY]
   refine bE.forget SW TC ?_
   rw [List.nil_append,Kx (yT ta),Kw (fun i m h=>HJ h) SZ]
   exact DE.symm.map _
 · have jF:i<ops.size:=by
    unfold jO at aC
    cases aP:ops[i]? with
    | none=>rw [aP] at aC;cases aC
    | some o=>exact (Array.getElem?_eq_some_iff.1 aP).1
   have Dc:k<ops.size:=by
    unfold jO at az
    cases aP:ops[k]? with
    | none=>rw [aP] at az;cases az
    | some o=>exact (Array.getElem?_eq_some_iff.1 aP).1
   have e':=(D3 k Dc).1 az
   have JB:σ=bf.filter (jO ops)++i::bz.filter (jO ops):=by rw [←D1,TN,List.filter_append,List.filter_cons_of_pos aC]
   have hA:posOf ig i=cd + (bf.filter (jO ops)).length:=by
    rw [td i jF,(xx i (bf.filter (jO ops)).length).2.1 (by rw [JB,List.getElem?_append_right (Nat.le_refl _),Nat.sub_self];rfl),te]
   obtain ⟨q,aE,yF,_⟩:=wy k Dc e'
   have pH:q < (bf.filter (jO ops)).length:=by omega
   rw [JB,List.getElem?_append_left pH] at aE
   exact (List.mem_filter.1 (List.mem_of_getElem? aE)).1
 · refine ⟨by simp,k.size,rfl,fun bl az=>absurd az (cU bl),fun bl o e az=>absurd az (cU bl),E,fK,de,Env.le.refl E,g1,g3,fun bl o U ad=>⟨fun h=>absurd h (cU bl),fun h=>by have:=g4 bl o U ad (Nat.zero_le _);omega⟩,
    fun bl o _ _ h=>absurd h (cU bl),g5,?_,fun t aB=>.inr ⟨fun bl o az=>absurd az (cU bl),k.av t aB⟩⟩
   exact g6.same rfl rfl rfl rfl
theorem R8 {rd:Option Nat} {au:Fr} {E:Env} {h:ae} {w:World} {id:Nat} (cO:P.follows .mixedOrders=true) (bt:dJ P) (cp:fe P call) (cZ:fp P call) {r:bp} {a:Act}
 {Q:Exit→Act→World→Prop} (ag:kD au E an (Q .normal) Q ((Cb P an ops).run call r h)) (k:ei E an r a) (s:aW au E h w):(Code.region id ops true).wpIn (bQ rd) 0 P Q a w:=by
 unfold Cb at ag
 generalize wv P ops=order at ag
 generalize zz order 0 ops.toList=aA at ag
 unfold HA at ag
 cases ax:(jo ops.size order aA&&sE P ops aA) with
 | false=>
   rw [ax] at ag
   simp only [cond_false] at ag
   cases hd:(jo ops.size order aA&&wQ P ops order aA) with
   | false=>
     rw [hd] at ag
     simp only [cond_false] at ag
     cases C2:jo ops.size order aA with
     | false=>rw [C2] at ag;exact ag.elim
     | true=>
       rw [C2] at ag
       simp only [cond_true] at ag
       exact Yw cO bt cp cZ C2 ag k s
   | true=>
     rw [hd] at ag
     simp only [cond_true] at ag
     simp only [Bool.and_eq_true] at hd
     exact R9 cO bt cp cZ hd.1 hd.2 ag k s
 | true=>
   rw [ax] at ag
   simp only [cond_true] at ag
   simp only [Bool.and_eq_true] at ax
   obtain ⟨fj,fE⟩:=ax
   unfold jo at fj
   simp only [Bool.and_eq_true,Nat.beq_eq] at fj
   obtain ⟨lr,tb,vq,vr⟩:=fj
   have gp:∀k,k<ops.size→posOf aA k<ops.size∧order[posOf aA k]? =some k:=by
    intro k az
    have aD:aA[k]? =some (posOf aA k):=by
     unfold posOf
     rw [List.getElem?_eq_getElem (by omega)]
     rfl
    have:=p3 vq aD
    rw [Nat.zero_add] at this
    exact ⟨by have:=(List.getElem?_eq_some_iff.1 this).1;omega,this⟩
   have iN:∀p,p<ops.size→∃i,i<ops.size∧posOf aA i=p:=by
    intro p ag
    have aD:order[p]? =some (order[p]'(by omega)):=List.getElem?_eq_getElem (by omega)
    have:=p3 vr aD
    rw [Nat.zero_add] at this
    refine ⟨order[p]'(by omega),by have:=(List.getElem?_eq_some_iff.1 this).1;omega,?_⟩
    unfold posOf
    rw [this]
    rfl
   have Fp:∀j o,ops[j]? =some o→dj P o=true→posOf aA j ∈ fV P aA 0 ops.toList:=fun j o U ad=>by simpa using tA (aA:=aA) (i:=0) (j:=j) (l:=ops.toList) (by simpa using U) ad
   have abr:ops.size ∈ fV P aA 0 ops.toList:=by simpa using y5 (P:=P) (aA:=aA) (l:=ops.toList) (i:=0)
   have Mh:∀N M,∀s ∈ fV P aA 0 ops.toList,(s=ops.size∨(s=N∧M=N))∨∃k o,ops[k]? =some o∧dj P o=true∧s=posOf aA k:=fun N M s aR=>by
    rcases pT aR with h | ⟨j,o,U,ad,aI⟩
    · exact .inl (.inl (by simpa using h))
    · exact .inr ⟨j,o,by simpa using U,ad,by simpa using aI⟩
   have IQ:∀i o,ops[i]? =some o→∃ch,(dM [] ops.toList)[i]? =some ch∧jS i o=true∧(posOf aA i<ops.size→
    ∀k ok,ops[k]? =some ok→posOf aA k<ops.size→∃mk,(dM [] ops.toList)[k]? =some mk∧lG i ch (bO ops o) o.dst k mk ok (Nat.blt (posOf aA k) (posOf aA i))=true∧(dU P o.op=true→dj P ok=true→posOf aA k<posOf aA i→eH ch k=true∨(false=true∧iE o=true∧iE ok=true))):=by
    intro i o aC
    obtain ⟨ch,g1,g2,g3⟩:=Hz fE i o aC
    exact ⟨ch,g1,g2,fun _ k ok az _=>by
     obtain ⟨mk,dp,eF,y3⟩:=g3 k ok az
     exact ⟨mk,dp,eF,fun a b c=>.inl (y3 a b c)⟩⟩
   have main:∀(q:wZ),
    (∀es lp N,es.length=N→N≤ops.size→(∀i o,ops[i]? =some o→posOf aA i<N→∃e,es[posOf aA i]? =some e∧(b8 P an ops o).run call e.r e.h=.val e.v (bT es lp (posOf aA i+1)))→
      (N<ops.size→∃i0 gK,ops[i0]? =some gK∧posOf aA i0=N∧dj P gK=true)→q.run call es lp=true→∀j o,ops[j]? =some o→looks o.op=true→dU P o.op=false→posOf aA j<N→∃e,es[posOf aA j]? =some e∧∀s ∈ fV P aA 0 ops.toList,
      oI P (dM [] ops.toList) ops.toList aA j (((dM [] ops.toList)[j]?).getD 0) s=true→∃aa,(b8 P an ops o).run call e.r (bT es lp s)=.val e.v aa)→
    kD au E an (Q .normal) Q (xS ops order aA (et P an ops (fJ ops order)) q call r h)→(Code.region id ops true).wpIn (bQ rd) 0 P Q a w:=by
    intro q py cu
    unfold xS at cu
    cases cb:(et P an ops (fJ ops order)).run call r h with
    | fail=>rw [cb] at cu;exact cu.elim
    | ok es eg a8=>
      rw [cb] at cu
      simp only at cu
      cases aE:q.run call es a8 with
      | false=>rw [aE] at cu;exact cu.elim
      | true=>
        rw [aE] at cu
        simp only [cond_true] at cu
        obtain ⟨ai,ay,aK,bE⟩:=qd cb
        have hlen:es.length=ops.size:=by rw [ai,mB,lr]
        have f_:∀i o,ops[i]? =some o→posOf aA i<ops.size→∃e,es[posOf aA i]? =some e∧(b8 P an ops o).run call e.r e.h=.val e.v (bT es a8 (posOf aA i+1))∧dt es eg (posOf aA i+1)=(ey o.dst).run e.r e.v:=
         fun i o aP _=>bE _ o (kq (gp i (Array.getElem?_eq_some_iff.1 aP).1).2 aP)
        have C:Cert P an ops (fun _=>call) es r h eg a8 (fV P aA 0 ops.toList) order aA ops.size ops.size false:=
         ⟨hlen,Nat.le_refl _,Nat.le_refl _,gp,iN,ay,aK,f_,IQ,abr,Fp,Mh _ _,
           fun j o U ad aI bq=>by
            obtain ⟨e,g1,g2⟩:=py es a8 _ hlen (Nat.le_refl _) (fun i o aP aC=>by obtain ⟨e,ca,z2,_⟩:=f_ i o aP aC;exact ⟨e,ca,z2⟩) (fun h=>by omega) aE j o U ad aI bq
            exact ⟨e,g1,fun s aR hm=>by obtain ⟨aa,g3⟩:=g2 s aR hm;exact ⟨_,aa,⟨cp,cZ⟩,g3⟩⟩,
           fun h=>absurd h (Nat.lt_irrefl _),fun h=>absurd h (Nat.lt_irrefl _)⟩
        exact Cd cO bt cp cZ k s C (fun _=>cu) (fun _ _ _ _ _ _ _ h=>absurd h (Nat.lt_irrefl _)) (fun h=>absurd h (Nat.lt_irrefl _))
    | b' es eg a8 v aa=>
      rw [cb] at cu
      simp only at cu
      cases aE:(ER ops order aA es.length&&q.run call es a8) with
      | false=>rw [aE] at cu;exact cu.elim
      | true=>
        rw [aE] at cu
        simp only [cond_true] at cu
        simp only [Bool.and_eq_true] at aE
        obtain ⟨rm,aE⟩:=aE
        obtain ⟨ay,aK,bE,gK,dr,eS,iO⟩:=Mi cb
        have aO:es.length<ops.size:=by
         have:=(List.getElem?_eq_some_iff.1 dr).1
         rw [mB,lr] at this
         exact this
        obtain ⟨i0,q_,hA⟩:=iN es.length aO
        have b0:ops[i0]? =some ops[i0]:=Array.getElem?_eq_getElem q_
        have mm:=(gp i0 q_).2
        rw [hA] at mm
        have UR:gK=ops[i0]:=by
         have:=kq mm b0
         rw [dr] at this
         cases this
         rfl
        subst UR
        unfold ER at rm
        rw [mm] at rm
        simp only at rm
        obtain ⟨m0,I4,_⟩:=mL rm i0 ops[i0] (by simp)
        have Jz:∀k ok,ops[k]? =some ok→∃mk,(dM [] ops.toList)[k]? =some mk∧(es.length<posOf aA k→eH mk i0=true)∧(e_ ok=true→posOf aA k<es.length→eH m0 k=true):=by
         intro k ok az
         obtain ⟨mk,ca,z2⟩:=mL rm k ok (by simpa using az)
         simp only [Nat.zero_add,Bool.and_eq_true] at z2
         refine ⟨mk,ca,fun aD=>?_,fun bm aj=>?_⟩
         · have:=z2.1
           rw [show Nat.blt es.length (posOf aA k)=true from by rw [Nat.blt_eq];exact aD] at this
           exact this
         · have:=z2.2
           rw [bm,show Nat.blt (posOf aA k) es.length=true from by rw [Nat.blt_eq];exact aj,I4] at this
           exact this
        have s4:dj P ops[i0]=true:=by
         obtain ⟨bB,bX⟩:=Kz (P:=P) eS
         unfold dj;rw [bB,bX];rfl
        have f_:∀i o,ops[i]? =some o→posOf aA i<es.length→∃e,es[posOf aA i]? =some e∧(b8 P an ops o).run call e.r e.h=.val e.v (bT es a8 (posOf aA i+1))∧dt es eg (posOf aA i+1)=(ey o.dst).run e.r e.v:=
         fun i o aP aj=>bE _ o aj (kq (gp i (Array.getElem?_eq_some_iff.1 aP).1).2 aP)
        have C:Cert P an ops (fun _=>call) es r h eg a8 (fV P aA 0 ops.toList) order aA es.length ops.size false:=
         ⟨rfl,Nat.le_of_lt aO,Nat.le_of_lt aO,gp,iN,ay,aK,f_,IQ,by rw [←hA];exact Fp i0 _ b0 s4,Fp,Mh _ _,
           fun j o U ad aI bq=>by
            obtain ⟨e,g1,g2⟩:=py es a8 _ rfl (Nat.le_of_lt aO) (fun i o aP aC=>by obtain ⟨e,ca,z2,_⟩:=f_ i o aP aC;exact ⟨e,ca,z2⟩) (fun _=>⟨i0,_,b0,hA,s4⟩) aE j o U ad aI bq
            exact ⟨e,g1,fun s aR hm=>by obtain ⟨aa,g3⟩:=g2 s aR hm;exact ⟨_,aa,⟨cp,cZ⟩,g3⟩⟩,
           fun h=>absurd h (Nat.lt_irrefl _),fun _ _=>⟨i0,_,m0,b0,hA,eS,I4,fun k ok mk az aD Ds=>by
            obtain ⟨mk',ca,z2,_⟩:=Jz k ok az
            rw [Ds] at ca;cases ca
            exact z2 aD,fun k ok az bm aj=>by
            obtain ⟨mk',ca,_,z3⟩:=Jz k ok az
            exact z3 bm aj,v,aa,iO⟩⟩
        refine Cd cO bt cp cZ k s C (fun h=>absurd h (by omega)) (fun ar bf ak x v1 U g1 _ _ g3 g4 g5 g6=>?_) (fun h=>absurd h (Nat.lt_irrefl _))
        obtain ⟨i1,cQ,ca,z2,z3⟩:=g3
        have:i1=i0:=C.rQ (Array.getElem?_eq_some_iff.1 ca).1 q_ (by rw [z2,hA])
        subst this
        rw [b0] at ca;cases ca
        rw [iO] at z3;cases z3
        exact cu ar bf ak x g1 g4 g5 g6
   cases aj:nP P ops.toList with
   | false=>
     rw [aj] at ag
     have none:∀(l:List Oper),nP P l=false→∀(j:Nat) (o:Oper),l[j]? =some o→dU P o.op=false:=by
      intro l
      induction l with
      | nil=>intro _ j o h;simp at h
      | cons x l bh=>
        intro h j o aP
        simp only [nP,Bool.or_eq_false_iff] at h
        cases j with
        | zero=>simp only [List.getElem?_cons_zero,Option.some.injEq] at aP;subst aP;exact h.1
        | succ j=>exact bh h.2 j o (by simpa using aP)
     refine main _ (fun es lp N hlen hle f_ Jq _ j o aP dL aE vl=>?_) ag
     have CI:N=ops.size:=by
      rcases Nat.lt_or_ge N ops.size with aO | hy
      · obtain ⟨i0,gK,ca,z2,z3⟩:=Jq aO
        have:=none _ aj i0 gK (by simpa using ca)
        unfold dj at z3
        rw [this] at z3;cases z3
      · omega
     obtain ⟨e,bY,b9⟩:=f_ j o aP vl
     refine ⟨e,bY,fun s aR _=>?_⟩
     have hg:s=ops.size:=by
      rcases pT aR with h | ⟨yX,bR,U,ad,aI⟩
      · simpa using h
      · have:=none _ aj yX bR U
        unfold dj at ad
        rw [this] at ad
        cases ad
     have flat:∀d,d≤ops.size→bT es lp d=bT es lp 0:=by
      intro d
      induction d with
      | zero=>intro _;rfl
      | succ d bh=>
        intro aV
        obtain ⟨i,pD,jF⟩:=iN d (by omega)
        have b0:ops[i]? =some ops[i]:=Array.getElem?_eq_getElem pD
        obtain ⟨Sa,bL,bH⟩:=f_ i ops[i] b0 (by omega)
        rw [jF] at bL bH
        have c2:dU P ops[i].op=false:=none _ aj i _ (by simp)
        rw [(qL c2 bH).1,←bh (by omega)]
        simp [bT,bL]
     have:e.h=bT es lp s:=by rw [hg,flat ops.size (Nat.le_refl _),←flat (posOf aA j) (by omega)];simp [bT,bY]
     rw [←this]
     exact ⟨_,b9⟩
   | true=>
     rw [aj] at ag
     refine main _ (fun es lp N hlen hle f_ Jq DF j o aP dL aE vl=>?_) ag
     obtain ⟨e,bY,_⟩:=f_ j o aP vl
     have:=A4 DF j o (by simpa using aP) dL aE e (by simpa using bY)
     exact ⟨e,bY,by simpa using this⟩
end
end Go.Proofs.YtkehcalakofigaaGreatDoor.aY
namespace Go.Proofs.YtkehcalakofigaaGreatDoor.aY
variable [Lay]
open Go Go.RowKit
def toExit:cY→Exit
 | .normal=>.normal
 | .exit id=>.exit id
 | .ret=>.ret
def Nn (C:Ctx):Prop:=
 ∀f p args h v aa,C.EX f=some p→p.run args h=.val v aa→(∃fn,C.P.funcs[f]? =some fn∧fn.body.isSome=true)∧∀(au:Fr) E w xs,aZ E args xs→aW au E h w→
  Calls C.P f xs.toArray w fun e ak=>∃ar x,e=.returned x∧E.le ar∧Rel ar v x∧aW au ar aa ak
def M0 (C:Ctx):Prop:=
 ∀f p args h v aa,C.ext f=some p→p.run args h=.val v aa→∀(au:Fr) E w xs,aZ E args xs→aW au E h w→
  ∃ar x ak,(callFunc f xs.toArray).run C.P w=.ok (.value x) ak∧E.le ar∧Rel ar v x∧aW au ar aa ak
def lT (C:Ctx):Prop:=Nn C∧M0 C
theorem m' {P:Program} {rd:Option Nat} (m:Machine):m.fenced P (bQ rd):=fenced_wide P m
def Ag (rd:Option Nat) (P:Program) (c:Code) (Q:Exit→Act→World→Prop) (a:Act) (w:World):Prop:=
 match c with
 | .loop x=>∀(b:Frame) (k:List Item) (cs:List Frame),b.roundOf=rd→∃e bf ak,Q e bf ak∧ArrivesIn (Machine.fenced P (bQ rd)) P (lone (b.atR a (.code x::.inLoop x::k)) cs w) b k cs e bf ak
 | c=>c.wpIn (bQ rd) 0 P Q a w
theorem Ag.wp {rd:Option Nat} {P:Program} {c:Code} {Q:Exit→Act→World→Prop} {a:Act} {w:World} (h:Ag rd P c Q a w):c.wpIn (bQ rd) 0 P Q a w:=by
 cases c with
 | loop x=>
   intro b k cs jb _ _
   obtain ⟨e,bf,ak,q,r⟩:=h b k cs jb
   exact ⟨e,bf,ak,q,.of_steps (.one (m' _) stepR_loop) r⟩
 | _=>exact h
def sl (au:Fr) (E:Env) (an:Nat) (Q:Exit→Act→World→Prop):jr→Prop
 | .ok e r h=>∀ar bf ak,E.le ar→ei ar an r bf→aW au ar h ak→Q (toExit e) bf ak
 | .b' v r h=>∀ar bf ak x,E.le ar→ei ar an r bf→Rel ar v x→aW au ar h ak→Q (.panic (mD x)) bf ak
 | .fail=>False
theorem sl.up {au:Fr} {E ar:Env} (h:E.le ar) {an:Nat} {Q:Exit→Act→World→Prop} {x:jr} (k:sl au E an Q x):sl au ar an Q x:=by
 cases x with
 | ok e r a8=>exact fun bM a w ad=>k bM a w (h.trans ad)
 | b' v r a8=>exact fun bM a w x ad=>k bM a w x (h.trans ad)
 | fail=>exact k
def FT (P:Program) (an:Nat) (c:Code) (run:bp→ae→jr):Prop:=
 ∀(rd:Option Nat) (au:Fr) r h,(rd=none∨noMark c=true)→∀E a w,ei E an r a→aW au E h w→∀Q:Exit→Act→World→Prop,sl au E an Q (run r h)→Ag rd P c Q a w
def o9 (P:Program) (ex:gg):Prop:=∀an c,FT P an c (ex an c)
def rV (tmps:Array Value):ResultVar→Sem Value
 | .tmp t=>pure (tmps.getD t undef)
 | .cell b t=>do loadVar t (←asAddr (tmps.getD b undef))
theorem E7 {P:Program} {au:Fr} {E:Env} {an:Nat} {r:bp} {h:ae} {a:Act} {w:World} (k:RegRel0 E an r a) (s:aW au E h w):∀{l:List ResultVar} {ab:List V},(ih P an l).run r h=some ab→
 ∃xs,aZ E ab xs∧(l.mapM (rV a.tmps)).run P w=.ok xs w
 | [],ab,he=>by
   simp only [ih,Option.some.injEq] at he
   subst he
   exact ⟨[],rfl,rfl⟩
 | .tmp t::l,ab,he=>by
   simp only [ih] at he
   cases aq:(Nat.ble t top&&Nat.blt t an) with
   | false=>rw [aq] at he;cases he
   | true=>
     rw [aq] at he
     simp only [cond_true] at he
     simp only [Bool.and_eq_true,Nat.ble_eq] at aq
     cases aH:(ih P an l).run r h with
     | none=>rw [aH] at he;cases he
     | some us=>
       rw [aH] at he
       simp only [Option.some.injEq] at he
       subst he
       obtain ⟨xs,U,ad⟩:=E7 k s aH
       refine ⟨_::xs,by simp only [aZ];exact ⟨_,_,rfl,k.av t aq.1,U⟩,?_⟩
       rw [List.mapM_cons,Sem.run_bind]
       simp only [rV,Sem.run_pure,Result.andThen_ok,Sem.run_bind,ad]
 | .cell b t::l,ab,he=>by
   simp only [ih] at he
   cases aq:(Nat.ble b top&&Nat.blt b an) with
   | false=>rw [aq] at he;cases he
   | true=>
     rw [aq] at he
     simp only [cond_true] at he
     simp only [Bool.and_eq_true,Nat.ble_eq] at aq
     cases bw:(mz P t).run h (T.get .bad (aG b) r) with
     | none=>rw [bw] at he;cases he
     | some v=>
       rw [bw] at he
       simp only at he
       cases aH:(ih P an l).run r h with
       | none=>rw [aH] at he;cases he
       | some us=>
         rw [aH] at he
         simp only [Option.some.injEq] at he
         subst he
         obtain ⟨xs,U,ad⟩:=E7 k s aH
         obtain ⟨Y,_,cn,A,kI,ej⟩:=Ko (P:=P) s (k.av b aq.1) bw
         refine ⟨Y::xs,by simp only [aZ];exact ⟨_,_,rfl,cn,U⟩,?_⟩
         rw [List.mapM_cons,Sem.run_bind]
         simp only [rV,kI,asAddr,Sem.run_bind,Sem.run_pure,Result.andThen_ok,ej,ad]
theorem Gs:∀(args:List V) (i:Nat) (t:bp) (j:Nat),i+args.length≤top+1→j≤top→
 T.get .bad (aG j) (j3 i args t)=if i≤j∧j<i+args.length then (args[j-i]?).getD .bad else T.get .bad (aG j) t
 | [],i,t,j,_,_=>by
   have:¬(i≤j∧j<i):=by omega
   simp [j3,this]
 | v::ab,i,t,j,h,bG=>by
   simp only [List.length_cons] at h ⊢
   rw [j3,Gs ab _ _ _ (by omega) bG]
   by_cases U:i+1≤j∧j<i+1+ab.length
   · rw [if_pos U,if_pos (by omega)]
     have:j-i=(j - (i+1))+1:=by omega
     rw [this,List.getElem?_cons_succ]
   · rw [if_neg U,T.gj]
     by_cases ad:j=i
     · subst ad;rw [if_pos rfl,if_pos (by omega)];simp
     · rw [if_neg (fun e=>ad (gB e).symm),if_neg (by omega)]
theorem Zq {E:Env} {ab:List V} {xs:List Value} (h:aZ E ab xs) (fn:Func) (a:Act) (P:Program) (w:World)
 (aH:(fn.results.toList.mapM (rV a.tmps)).run P w=.ok xs w):∃x,(results fn a.tmps).run P w=.ok x w∧Rel E (oneOf ab) x:=by
 have mj:(fn.results.mapM (rV a.tmps)).run P w=.ok xs.toArray w:=by
  rw [Array.mapM_eq_mapM_toList,Sem.run_map,aH]
  rfl
 have CU:results fn a.tmps=(do
  let ab ←fn.results.mapM (rV a.tmps)
  pure (if h:ab.size=1 then ab[0] else .tuple ab)):=by
  unfold results
  have:(fun x=>match x with
   | ResultVar.tmp t=>(pure (a.tmps.getD t undef):Sem Value)
   | ResultVar.cell b t=>do loadVar t (←asAddr (a.tmps.getD b undef)))=rV a.tmps:=by
   funext x
   cases x<;>rfl
  rw [←this]
  rfl
 have tg:(results fn a.tmps).run P w=.ok (if h:xs.toArray.size=1 then xs.toArray[0] else .tuple xs.toArray) w:=by
  rw [CU,Sem.run_bind,mj]
  rfl
 refine ⟨_,tg,?_⟩
 match ab,h with
 | [],h=>
   simp only [aZ] at h
   subst h
   simp only [oneOf,Rel]
   exact ⟨#[],rfl,rfl⟩
 | [v],h=>
   simp only [aZ] at h
   obtain ⟨y,bZ,rfl,a1,rfl⟩:=h
   simpa [oneOf] using a1
 | v::u::ab,h=>
   have aj:=h.length
   have c2:¬xs.toArray.size=1:=by simp at aj ⊢;omega
   rw [dif_neg c2]
   simp only [oneOf,Rel]
   exact ⟨_,rfl,by simpa using h⟩
section
variable {C:Ctx}
theorem Gr:∀(args:List V) (i:Nat) (t:bp),i+args.length≤top+1→T.get .bad dT (j3 i args t)=T.get .bad dT t
 | [],_,_,_=>rfl
 | v::ab,i,t,h=>by
   simp only [List.length_cons] at h
   simp only [j3]
   rw [Gr ab (i+1) _ (by omega),T.gj,if_neg (rN (by omega))]
theorem HM {E:Env} {an:Nat} {args:List V} {xs:List Value} (aj:aZ E args xs) (iW:args.length≤an) (fu:an≤top):
 ei E an (j3 0 args .e) {tmps:=xs.toArray++Array.replicate (an-xs.toArray.size) undef,defers:=[]}:=by
 have hlen:=aj.length
 refine ⟨⟨by simp;omega,fun t aB=>?_⟩,?_⟩
 · rw [Gs _ _ _ _ (by omega) aB]
   by_cases aO:t<args.length
   · rw [if_pos (by omega),Nat.sub_zero,List.getElem?_eq_getElem aO]
     obtain ⟨y,a1,cn⟩:=aj.get t args[t] (List.getElem?_eq_getElem aO)
     simp only [Option.getD_some]
     have:(xs.toArray++Array.replicate (an-xs.toArray.size) undef).getD t undef=y:=by
      rw [Array.getD_eq_getD_getElem?,Array.getElem?_append_left (by simp;omega)]
      simp [a1]
     rw [this];exact cn
   · rw [if_neg (by omega)]
     simp [Rel]
 · rw [Gr _ _ _ (by omega)]
   simp [iR]
def iu (E:Env) (u:Option V) (m:FrameMode):Prop:=
 match u with
 | none=>m=.returning
 | some v=>∃x,Rel E v x∧m=.panicking (mD x)
theorem iu.mono {E ar:Env} (h:E.le ar) {u:Option V} {m:FrameMode} (k:iu E u m):iu ar u m:=by
 cases u with
 | none=>exact k
 | some v=>obtain ⟨x,U,ad⟩:=k;exact ⟨x,Rel.mono h _ _ U,ad⟩
theorem iu.settle {E:Env} {u:Option V} {m:FrameMode} (k:iu E u m):settle m=m:=by
 cases u with
 | none=>simp only [iu] at k;subst k;rfl
 | some v=>obtain ⟨x,U,rfl⟩:=k;rfl
theorem iu.run {E:Env} {u:Option V} {m:FrameMode} (k:iu E u m):m≠.run:=by
 cases u with
 | none=>simp only [iu] at k;subst k;simp
 | some v=>obtain ⟨x,U,rfl⟩:=k;simp
def w2 (P:Program) (h1:ql):Prop:=
 ∀f args u h fo aa,h1 f args u h=.go fo aa→(∃fn,P.funcs[f]? =some fn∧fn.body.isSome=true)∧
  ∀(au:Fr) E w xs m,aZ E args xs→iu E u m→aW au E h w→CallsDIn (bQ none) 0 P f xs.toArray m w fun e cI ak=>∃ar x,e=.returned x∧E.le ar∧iu ar fo (settle cI)∧aW au ar aa ak
theorem aW.gone {au:Fr} {E:Env} {h:ae} {w ak:World} (s:aW au E h w) {b:aN} {p:gO} (fF:(h.get b).own=true) (ag:E b=some p) (cS:au.w.heap.size≤p.bd)
 (aO:w.heap.size≤ak.heap.size) (kh:∀j,j≠p.bd→ak.heap[j]? =w.heap[j]?) (lu:ak.os=w.os) (aB:ak.tape=w.tape) (aP:ak.output=w.output):aW au E (h.set b .dead) ak:=
 s.set fF ag cS aO kh lu aB aP (fun _ _ _ e=>by cases e) trivial
theorem Ef {P:Program} {h1:ql} (bt:dJ P) (iX:w2 P h1) {au:Fr} {fn:Func} {tmps:Array Value} {R:Ending→World→Prop}:∀(ab:List V) (ds:List Deferred) (E:Env) (u:Option V) (h:ae) (w:World) (m:FrameMode) (fo:Option V) (aa:ae),
 kk h1 ab u h=.go fo aa→kz E ab ds→iu E u m→aW au E h w→(∀ar cI ak,E.le ar→iu ar fo cI→aW au ar aa ak→LeavesInM (bQ none) 0 P fn tmps R [] cI ak)→LeavesInM (bQ none) 0 P fn tmps R ds m w
 | [],ds,E,u,h,w,m,fo,aa,he,aV,hu,s,cn=>by
   simp only [kk,pd.go.injEq] at he
   obtain ⟨rfl,rfl⟩:=he
   simp only [kz] at aV
   subst aV
   exact cn E m w (Env.le.refl E) hu s
 | v::ab,ds,E,u,h,w,m,fo,aa,he,aV,hu,s,cn=>by
   obtain ⟨d,kG,rfl,yo,yp⟩:=aV
   cases v with
   | func f args=>
     simp only [kk] at he
     cases aq:h1 f args u h with
     | fail=>rw [aq] at he;cases he
     | go FE U=>
       rw [aq] at he
       simp only at he
       obtain ⟨ax,cap,aB,aj⟩:=yo
       obtain ⟨⟨SN,gk,af⟩,cp⟩:=iX _ _ _ _ _ _ aq
       refine ⟨hu.run,.inr ⟨fun h=>by simp at h,_,cap,f,d.args++cap,aB,?_,fun _ _=>trivial,?_⟩⟩
       · rw [aB]
         simp only [invoke]
         exact p_ bt gk af _ w
       · have e:d.args++cap=(d.args.toList++cap.toList).toArray:=by apply Array.ext';simp
         rw [e]
         refine CallsDIn.mono (cp au E w _ m aj hu s) fun e m1 bL aE=>?_
         obtain ⟨eU,x,rfl,ai,ay,aK⟩:=aE
         exact Ef bt iX ab kG eU FE U bL (settle m1) fo aa he (yp.mono ai) ay aK fun bM m2 bH bY b9 dZ=>cn bM m2 bH (ai.trans bY) b9 dZ
   | ptr b off=>
     simp only [kk] at he
     cases aD:h.get b<;>rw [aD] at he<;>simp only at he<;>try (cases he;done)
     obtain ⟨p,ag,T6⟩:=yo
     have af:=s.at ag
     rw [aD] at af
     obtain ⟨p',fv,cS,a8⟩:=af
     rw [ag] at fv;cases fv
     have i':=(Array.getElem?_eq_some_iff.1 a8).1
     let bL:World:={w with heap:=w.heap.setIfInBounds p.bd (.deferred none)}
     have Vh:(Instr.takeDeferred p.bd).run P w=.ok [] bL:=by
      have dR:(getObj p.bd).run P w=.ok (.deferred (some [])) w:=by simp only [getObj,Sem.run,a8]
      have ou:(setObj p.bd (.deferred none)).run P w=.ok () bL:=by simp only [setObj,Sem.run,a8];rfl
      simp only [Instr.takeDeferred,Sem.run_bind,dR,Result.andThen_ok,ou,Sem.run_pure]
     have s1:aW au E (h.set b .dead) bL:=s.gone (by rw [aD];rfl) ag cS (by simp [bL]) (fun j bG=>by simp only [bL,Array.getElem?_setIfInBounds];rw [if_neg (fun e=>bG e.symm)]) rfl rfl rfl
     refine ⟨hu.run,.inl ⟨p.bd,bL,by rw [T6],Vh,?_⟩⟩
     exact Ef bt iX ab kG E u _ bL m fo aa he yp hu s1 cn
   | _=>simp [kk] at he
theorem Fa {P:Program} {au:Fr} {E:Env} {fn:Func} {r:bp} {h:ae} {a:Act} {w:World} (k:RegRel0 E fn.ntmps r a) (s:aW au E h w) {ab:List V} (bw:(ih P fn.ntmps fn.results.toList).run r h=some ab):
 ∃x,(results fn a.tmps).run P w=.ok x w∧Rel E (oneOf ab) x:=by
 obtain ⟨bZ,bY,b9⟩:=E7 (P:=P) k s bw
 exact Zq bY fn a P w b9
section
variable {C:Ctx}
theorem Q6 (ex:gg):fp C.P (n0 C ex):=by
 intro f args h v aa he
 trivial
def nM (au:Fr) (E:Env) (R:Ending→World→Prop):aT→Prop
 | .val v aa=>∀ar x ak,E.le ar→Rel ar v x→aW au ar aa ak→R (.returned x) ak
 | .b' v aa=>∀ar x ak,E.le ar→Rel ar v x→aW au ar aa ak→R (.panicked (mD x)) ak
 | .fail=>False
theorem nM.up {au:Fr} {E ar:Env} (h:E.le ar) {R:Ending→World→Prop} {x:aT} (k:nM au E R x):nM au ar R x:=by
 cases x with
 | val v a8=>exact fun bM a w ad=>k bM a w (h.trans ad)
 | b' v a8=>exact fun bM a w ad=>k bM a w (h.trans ad)
 | fail=>exact k
theorem Cp (bt:dJ C.P) {h1:ql} (iX:w2 C.P h1) {au:Fr} {fn:Func} {E:Env} {r:bp} {u:Option V} {h:ae} {a:Act} {w:World} {m:FrameMode} {R:Ending→World→Prop}
 (k:ei E fn.ntmps r a) (hu:iu E u m) (s:aW au E h w)
 (ag:nM au E R (finish (ih C.P fn.ntmps fn.results.toList) r (kk h1 (T.get .bad dT r).list u h))):LeavesInM (bQ none) 0 C.P fn a.tmps R a.defers m w:=by
 cases aj:kk h1 (T.get .bad dT r).list u h with
 | fail=>rw [aj] at ag;exact ag.elim
 | go fo aa=>
   rw [aj] at ag
   refine Ef bt iX _ a.defers E u h w m fo aa aj k.defers.list hu s fun ar cI ak ai ay aK=>?_
   cases fo with
   | some v=>
     obtain ⟨x,ao,rfl⟩:=ay
     exact ag ar x ak ai ao aK
   | none=>
     simp only [iu] at ay
     subst ay
     simp only [finish] at ag
     cases bw:(ih C.P fn.ntmps fn.results.toList).run r aa with
     | none=>rw [bw] at ag;exact ag.elim
     | some ab=>
       rw [bw] at ag
       obtain ⟨x,bY,b9⟩:=Fa (P:=C.P) (k.mono ai).toRegRel0 aK bw
       exact ⟨x,bY,ag ar x ak ai b9 aK⟩
theorem Hp {res:sn} {u fo:Option V} {x:jr} {aa:ae} (he:xR res u x=.go fo aa):∃e r ab,x=.ok e r aa∧(e=.normal∨e=.ret)∧T.get .bad dT r=.bad∧res.run r aa=some ab∧fo=u:=by
 unfold xR at he
 cases x with
 | fail=>cases he
 | b' _ _ _=>cases he
 | ok e r h=>
   have main:(bif (T.get .bad dT r).D7 then (match res.run r h with
    | some _=>pd.go u h
    | none=>.fail) else .fail)=.go fo aa→(e=.normal∨e=.ret)→∃cN bo ab,jr.ok e r h=.ok cN bo aa∧(cN=.normal∨cN=.ret)∧T.get .bad dT bo=.bad∧res.run bo aa=some ab∧fo=u:=by
    intro he f'
    cases af:(T.get .bad dT r).D7 with
    | false=>rw [af] at he;cases he
    | true=>
      rw [af] at he
      simp only [cond_true] at he
      have TW:T.get .bad dT r=.bad:=by
       cases aD:T.get .bad dT r<;>rw [aD] at af<;>first
        | rfl
        | cases af
      cases bw:res.run r h with
      | none=>rw [bw] at he;cases he
      | some ab=>
        rw [bw] at he
        simp only [pd.go.injEq] at he
        obtain ⟨rfl,rfl⟩:=he
        exact ⟨e,r,ab,rfl,f',TW,bw,rfl⟩
   cases e with
   | normal=>exact main he (.inl rfl)
   | ret=>exact main he (.inr rfl)
   | exit id=>cases he
theorem aar {c:Code} {s:AR} (h:zM c=some s):∃id cQ cD args types,c=.seq (.region id #[cQ,cD] false) s.rest∧cQ.dst=some s.d∧cQ.op=.call ⟨.builtin .recover,args,types⟩∧cQ.guard=none∧cD.dst=some s.e∧cD.op=.assign s.x∧cD.guard=none:=by
 unfold zM at h
 split at h
 case h_2=>cases h
 rename_i id ops rest
 split at h
 case h_2=>cases h
 rename_i cQ cD aj
 split at h
 case h_2=>cases h
 rename_i d args types e x U ad aI bq ct fY
 cases h
 have UU:ops=#[cQ,cD]:=by apply Array.ext';simp [aj]
 subst UU
 exact ⟨id,cQ,cD,_,_,rfl,U,ad,aI,bq,ct,fY⟩
theorem R0 (cO:C.P.follows .mixedOrders=true) (bt:dJ C.P) {ex:gg} (hex:o9 C.P ex):w2 C.P (xQ C.P ex):=by
 intro f args u h fo aa he
 unfold xQ at he
 cases ax:C.P.funcs[f]? with
 | none=>rw [ax] at he;cases he
 | some fn=>
   rw [ax] at he
   simp only at he
   cases af:fn.body with
   | none=>rw [af] at he;cases he
   | some c=>
     rw [af] at he
     simp only at he
     refine ⟨⟨fn,rfl,by rw [af];rfl⟩,fun au E w xs m aj hu s=>?_⟩
     cases fu:Nat.ble fn.ntmps top with
     | false=>rw [fu] at he;cases he
     | true=>
       rw [fu] at he
       simp only [cond_true] at he
       rw [Nat.ble_eq] at fu
       unfold Hq at he
       cases iW:Nat.ble args.length fn.ntmps with
       | false=>rw [iW] at he;cases he
       | true=>
         rw [iW] at he
         simp only [cond_true] at he
         rw [Nat.ble_eq] at iW
         have k:=HM aj iW fu
         cases aH:zM c with
         | none=>
           rw [aH] at he
           simp only at he
           obtain ⟨e,r,ab,ao,f',pA,bw,rfl⟩:=Hp he
           refine CallsDIn.mono (callsDIn_of_wp (R:=fun e ak=>∃ar x,e=.returned x∧E.le ar∧aW au ar aa ak) ax af trivial ?_) fun cN cI ak aE=>?_
           · refine (hex fn.ntmps c none au _ h (.inl rfl) E _ w k s _ ?_).wp
             rw [ao]
             intro ar bf ak ai ay aK
             have aV:bf.defers=[]:=by have:=ay.defers;rw [pA] at this;exact this
             obtain ⟨x,bY,b9⟩:=Fa (P:=C.P) ay.toRegRel0 aK bw
             rcases f' with rfl | rfl<;>exact ⟨aV,x,bY,ar,x,rfl,ai,aK⟩
           · obtain ⟨rfl,ar,x,rfl,ai,aK⟩:=aE
             exact ⟨ar,x,rfl,ai,by rw [hu.settle];exact hu.mono ai,aK⟩
         | some cA=>
           rw [aH] at he
           simp only at he
           cases fE:(ed fn.ntmps (some cA.d)&&ed fn.ntmps (some cA.e)) with
           | false=>rw [fE] at he;cases he
           | true=>
             rw [fE] at he
             simp only [cond_true] at he
             simp only [Bool.and_eq_true] at fE
             obtain ⟨e,r,ab,ao,f',pA,bw,rfl⟩:=Hp he
             obtain ⟨id,cQ,cD,wH,rt,rfl,g1,g2,g3,g4,g5,g6⟩:=aar aH
             refine callsDIn_of_wpSIn ax af trivial fun qJ cs CT=>wpSIn_seq (wpSIn_region ?_)
             obtain ⟨X,cK,l0,gT,cI,kf,Vc⟩:∃X,Rel E (u.getD .nilIface) X∧∃l0,(match recoverD (qJ::cs) with
              | some (v,RP)=>v=X∧RP=l0
              | none=>X=.nilIface∧l0=qJ::cs)∧∃cI,l0={qJ with mode:=cI}::cs∧settle cI=.returning:=by
              cases u with
              | none=>
                simp only [iu] at hu
                subst hu
                refine ⟨.nilIface,rfl,qJ::cs,?_,.returning,?_,rfl⟩
                · simp only [recoverD,CT];exact ⟨trivial,trivial⟩
                · rw [←CT]
              | some v=>
                obtain ⟨x,ao,rfl⟩:=hu
                refine ⟨x,ao,{qJ with mode:=.panicking [{v:=x,recovered:=true}]}::cs,?_,.panicking [{v:=x,recovered:=true}],rfl,rfl⟩
                simp only [recoverD,CT];exact ⟨trivial,trivial⟩
             have b6:=k.put fE.1 cK
             have cz:=b6.put fE.2 (c7 b6.toRegRel0 cA.x)
             rw [←g1] at cz
             rw [←g4] at cz
             have th:=(hex fn.ntmps cA.rest none au _ h (.inl rfl) E _ w cz s (fun cN bf ak=>bodyPostS C.P fn qJ cs (fun e cI ak=>∃ar x,e=.returned x∧E.le ar∧iu ar none (settle cI)∧aW au ar aa ak) cN bf l0 ak) (by
              have:LH cA u (j3 0 args .e)=(ey cD.dst).run ((ey cQ.dst).run (j3 0 args .e) (u.getD .nilIface)) ((bA cA.x).run ((ey cQ.dst).run (j3 0 args .e) (u.getD .nilIface))):=by rw [g1,g4];rfl
              rw [←this,ao]
              intro ar bf ak ai ay aK
              have aV:bf.defers=[]:=by have:=ay.defers;rw [pA] at this;exact this
              obtain ⟨x,bY,b9⟩:=Fa (P:=C.P) ay.toRegRel0 aK bw
              rcases f' with rfl | rfl<;>exact ⟨aV,cI,kf,x,bY,ar,x,rfl,ai,Vc,aK⟩)).wp
             have Jw:=wpSIn_of_wpIn (F:=bQ none) rfl th
             have kR:∀y,Region.wanted cQ y=true:=fun y=>by simp [Region.wanted,g3]
             have nj:∀y,Region.wanted cD y=true:=fun y=>by simp [Region.wanted,g6]
             have U_:∀(ρ:Operand→Value),(execOp ρ cQ).run C.P w=.ok .recover w:=fun ρ=>by
              obtain ⟨dst,op,type,pos,after,guard⟩:=cQ
              simp only at g2
              subst g2
              rfl
             have vB:∀(ρ:Operand→Value),(execOp ρ cD).run C.P w=.ok (.value (ρ cA.x)) w:=fun ρ=>by
              obtain ⟨dst,op,type,pos,after,guard⟩:=cD
              simp only at g5
              subst g5
              rfl
             have b4:(#[cQ,cD]:Array Oper).size=2:=rfl
             rw [b4]
             simp only [List.range_succ,List.range_zero,List.nil_append,List.cons_append,wpOpsSIn]
             have cE:(#[cQ,cD]:Array Oper)[0]? =some cQ:=rfl
             have aF:(#[cQ,cD]:Array Oper)[1]? =some cD:=rfl
             rw [cE]
             simp only [kR,if_true,U_]
             refine ⟨fun _ _=>trivial,?_⟩
             cases Jj:recoverD (qJ::cs) with
             | none=>
               rw [Jj] at gT
               obtain ⟨TL,ma⟩:=gT
               subst TL ma
               simp only [aF,nj,if_true,vB]
               exact ⟨fun _ _=>trivial,Jw⟩
             | some FF=>
               obtain ⟨v,ac1⟩:=FF
               rw [Jj] at gT
               obtain ⟨rfl,rfl⟩:=gT
               simp only [aF,nj,if_true,vB]
               exact ⟨fun _ _=>trivial,Jw⟩
end
end
end Go.Proofs.YtkehcalakofigaaGreatDoor.aY
namespace Go.Proofs.YtkehcalakofigaaGreatDoor.aY
variable [Lay]
open Go Go.RowKit
theorem Mf:∀(xs:List V) (x:V),z_ (xs++[x])=some (xs,x)
 | [],x=>rfl
 | [y],x=>rfl
 | y::z::xs,x=>by
   have:=Mf (z::xs) x
   simp only [List.cons_append] at this ⊢
   simp only [z_,this]
theorem RegRel0.putAt {E:Env} {an:Nat} {r:bp} {t:Array Value} {ds:List Deferred} (k:RegRel0 E an r ⟨t,ds⟩) {d:Nat} (aV:d<an) (aB:d≤top) {v:V} {x:Value} (bw:Rel E v x):
 RegRel0 E an (T.put .bad v (aG d) r) ⟨t.setIfInBounds d x,ds⟩:=by
 refine ⟨by simp only [Array.size_setIfInBounds];exact k.size,fun j bG=>?_⟩
 rw [T.gj]
 have b4:=k.size
 simp only at b4
 by_cases h:d=j
 · subst h
   rw [if_pos rfl]
   simp [Array.getD_eq_getD_getElem?,b4,aV,bw]
 · rw [if_neg (fun e=>h (gB e))]
   have:=k.av j bG
   simpa [Array.getD_eq_getD_getElem?,Array.getElem?_setIfInBounds,h] using this
theorem Lt {E:Env} {an:Nat} {ds:List Deferred}:∀(a':List Nat) (ab:List V) (xs:List Value) (r:bp) (t:Array Value),lI an a'=true→aZ E ab xs→RegRel0 E an r ⟨t,ds⟩→
 RegRel0 E an (oM a' ab r) ⟨(a'.zip xs).foldl (fun t (p:Nat × Value)=>t.setIfInBounds p.1 p.2) t,ds⟩
 | [],ab,xs,r,t,_,_,k=>by cases ab<;>exact k
 | p::a',[],xs,r,t,_,aj,k=>by simp only [aZ] at aj;subst aj;exact k
 | p::a',v::ab,xs,r,t,ag,aj,k=>by
   obtain ⟨y,bZ,rfl,a1,aj⟩:=aj
   simp only [lI,List.all_cons,Bool.and_eq_true,Nat.blt_eq,Nat.ble_eq] at ag
   simp only [oM,List.zip_cons_cons,List.foldl_cons]
   exact Lt a' ab bZ _ _ ag.2 aj (k.putAt ag.1.1 ag.1.2 a1)
theorem Lu {E:Env} {an:Nat} {ds:List Deferred} {a':Array Nat} {ab:List V} {xs:List Value} {r:bp} {t:Array Value} (ag:lI an a'.toList=true) (aj:aZ E ab xs) (k:RegRel0 E an r ⟨t,ds⟩):
 RegRel0 E an (oM a'.toList ab r) ⟨(a'.zip xs.toArray).foldl (fun t (p:Nat × Value)=>t.setIfInBounds p.1 p.2) t,ds⟩:=by
 rw [←Array.foldl_toList,Array.toList_zip]
 exact Lt a'.toList ab xs r t ag aj k
theorem RegRel0.N8 {E:Env} {an:Nat} {r:bp} {a:Act} (k:RegRel0 E an r a) (v:V):RegRel0 E an (T.put .bad v dT r) a:=
 ⟨k.size,fun t aB=>by rw [T.gj,if_neg (fun e=>rN aB e.symm)];exact k.av t aB⟩
section
variable {C:Ctx}
theorem SO (bt:dJ C.P) (cO:C.P.follows .mixedOrders=true) {ex:gg} (hex:o9 C.P ex) {f:FuncId} {args:List V} {h:ae} {au:Fr} {E:Env} {w:World} {xs:List Value} (aj:aZ E args xs) (s:aW au E h w) {R:Ending→World→Prop}
 (ag:nM au E R ((Cs C.P f).run ex args h)):(∃fn,C.P.funcs[f]? =some fn∧fn.body.isSome=true)∧Calls C.P f xs.toArray w R:=by
 unfold Cs at ag
 cases ax:C.P.funcs[f]? with
 | none=>rw [ax] at ag;exact ag.elim
 | some fn=>
   rw [ax] at ag
   simp only at ag
   cases af:fn.body with
   | none=>rw [af] at ag;exact ag.elim
   | some c=>
     rw [af] at ag
     simp only at ag
     refine ⟨⟨fn,rfl,by rw [af];rfl⟩,?_⟩
     cases fu:Nat.ble fn.ntmps top with
     | false=>rw [fu] at ag;exact ag.elim
     | true=>
       rw [fu] at ag
       simp only [cond_true] at ag
       rw [Nat.ble_eq] at fu
       unfold H' at ag
       cases iW:Nat.ble args.length fn.ntmps with
       | false=>rw [iW] at ag;exact ag.elim
       | true=>
         rw [iW] at ag
         simp only [cond_true] at ag
         rw [Nat.ble_eq] at iW
         have k:=HM aj iW fu
         have iX:=R0 (C:=C) cO bt hex
         refine pk.1 (callsIn_of_wp_marks (F:=bQ none) (n:=0) ax af trivial ?_)
         refine (hex fn.ntmps c none au _ h (.inl rfl) E _ w k s _ ?_).wp
         cases aH:ex fn.ntmps c (j3 0 args .e) h with
         | fail=>rw [aH] at ag;exact ag
         | b' v r U=>
           rw [aH] at ag
           intro ar bf ak x ai ay aK bE
           exact Cp (u:=some v) bt iX ay ⟨x,aK,rfl⟩ bE (nM.up ai ag)
         | ok e r U=>
           rw [aH] at ag
           intro ar bf ak ai ay aK
           have main:nM au E R (finish (ih C.P fn.ntmps fn.results.toList) r (kk (xQ C.P ex) (T.get .bad dT r).list none U))→LeavesInM (bQ none) 0 C.P fn bf.tmps R bf.defers .returning ak:=by
            intro ag
            exact Cp (u:=none) bt iX ay rfl aK (nM.up ai ag)
           cases e with
           | normal=>exact main ag
           | ret=>exact main ag
           | exit id=>exact ag.elim
theorem x9 (bt:dJ C.P) (cO:C.P.follows .mixedOrders=true) (fh:lT C) {ex:gg} (hex:o9 C.P ex) {f:FuncId} {args:List V} {h:ae} {au:Fr} {E:Env} {w:World} {xs:List Value} (aj:aZ E args xs) (s:aW au E h w) {R:Ending→World→Prop}
 (ag:nM au E R ((sQ C f).run ex args h)):(∃fn,C.P.funcs[f]? =some fn∧fn.body.isSome=true)∧Calls C.P f xs.toArray w R:=by
 unfold sQ at ag
 cases aE:C.EX f with
 | none=>rw [aE] at ag;exact SO bt cO hex aj s ag
 | some p=>
   rw [aE] at ag
   simp only at ag
   cases aH:p.run args h with
   | fail=>rw [aH] at ag;exact ag.elim
   | b' _ _=>rw [aH] at ag;exact ag.elim
   | val v aa=>
     rw [aH] at ag
     obtain ⟨U,ad⟩:=fh.1 f p args h v aa aE aH
     refine ⟨U,(ad au E w xs aj s).mono fun e ak aE=>?_⟩
     obtain ⟨ar,x,rfl,ai,ay,aK⟩:=aE
     exact ag ar x ak ai ay aK
theorem aW.loop {P:Program} {au:Fr} {E:Env} {h:ae} {w:World} (s:aW au E h w) {b:aN} {l dY:lS} {p:gO} {o bR:Loop} (aD:h.get b=.dq l) (ag:E b=some p) (cS:au.w.heap.size≤p.bd) (a8:w.heap[p.bd]? =some (.loop o)) (aH:qx E dY bR):
 (setObj p.bd (.loop bR)).run P w=.ok () {w with heap:=w.heap.setIfInBounds p.bd (.loop bR)}∧aW au E (h.set b (.dq dY)) {w with heap:=w.heap.setIfInBounds p.bd (.loop bR)}:=by
 have i':=(Array.getElem?_eq_some_iff.1 a8).1
 refine ⟨by simp only [setObj,Sem.run,a8],s.set (p:=p) (by rw [aD];rfl) ag cS (by simp) (fun j bG=>?_) rfl rfl rfl (fun _ _ _ e=>by cases e) ?_⟩
 · simp only [Array.getElem?_setIfInBounds]
   rw [if_neg (fun e=>bG e.symm)]
 · exact ⟨p,bR,ag,cS,by simp [i'],aH⟩
theorem run_getLoop {P:Program} {r:Nat} {w:World} {o:Loop} (a8:w.heap[r]? =some (.loop o)):(Instr.getLoop r).run P w=.ok o w:=by
 have:(getObj r).run P w=.ok (.loop o) w:=by simp only [getObj,Sem.run,a8]
 simp only [Instr.getLoop,Sem.run_bind,this,Result.andThen_ok,Sem.run_pure]
theorem LS {au:Fr} {E:Env} {h aa:ae} {w:World} {b:aN} {p:gO} {e:cY} {v:V} {P:Program} {R:Ending→World→Prop} {a:Act} (s:aW au E h w) (ag:E b=some p) (he:rX b e h=.val v aa)
 (cn:∀x ak,Rel E v x→aW au E aa ak→R (.returned x) ak):roundPost P p.bd R (toExit e) a w:=by
 unfold rX at he
 have af:=s.at ag
 cases aD:h.get b<;>rw [aD] at he af<;>simp only at he<;>try (cases he;done)
 rename_i l
 obtain ⟨p',o,fv,cS,a8,aH⟩:=af
 rw [ag] at fv;cases fv
 have og:=run_getLoop (P:=P) a8
 obtain ⟨bs,cV,b3,k1,cF,fk,eT,fl⟩:=aH
 cases e with
 | normal=>
   simp only [aT.val.injEq] at he
   obtain ⟨rfl,rfl⟩:=he
   obtain ⟨U,ad⟩:=s.loop (P:=P) (dY:=⟨0,none,l.d,l.an,l.r,l.a',l.assign,l.body⟩) (bR:={o with state:=.ready,pending:=none}) aD ag cS a8 ⟨rfl,rfl,b3,k1,cF,fk,eT,fl⟩
   refine ⟨.bool true,_,?_,cn _ _ rfl ad⟩
   simp only [Instr.endRound,Sem.run_bind,og,Result.andThen_ok,Option.isNone_none,if_true,U,Sem.run_pure]
 | ret=>
   simp only [aT.val.injEq] at he
   obtain ⟨rfl,rfl⟩:=he
   obtain ⟨U,ad⟩:=s.loop (P:=P) (dY:=⟨2,some .ret,l.d,l.an,l.r,l.a',l.assign,l.body⟩) (bR:={o with state:=.done,pending:=some .ret}) aD ag cS a8 ⟨rfl,rfl,b3,k1,cF,fk,eT,fl⟩
   refine ⟨.bool false,_,?_,cn _ _ rfl ad⟩
   simp only [Instr.endRound,Sem.run_bind,og,Result.andThen_ok,Option.isNone_some,Bool.false_eq_true,if_false,U,Sem.run_pure]
 | exit id=>
   simp only [aT.val.injEq] at he
   obtain ⟨rfl,rfl⟩:=he
   obtain ⟨U,ad⟩:=s.loop (P:=P) (dY:=⟨2,some (.exit id),l.d,l.an,l.r,l.a',l.assign,l.body⟩) (bR:={o with state:=.done,pending:=some (.exit id)}) aD ag cS a8 ⟨rfl,rfl,b3,k1,cF,fk,eT,fl⟩
   refine ⟨.bool false,_,?_,cn _ _ rfl ad⟩
   simp only [Instr.endRound,Sem.run_bind,og,Result.andThen_ok,Option.isNone_some,Bool.false_eq_true,if_false,U,Sem.run_pure]
theorem aaG {P:Program} {ex:gg} (hex:o9 P ex) {au:Fr} {E:Env} {h aa:ae} {w:World} {args:List V} {xs:List Value} {b:aN} {p:gO} {v:V} (he:wL ex args b h=.val v aa) (aj:aZ E args xs) (s:aW au E h w) (ag:E b=some p):
 ∃f tmps assign body,(Instr.yield p.bd xs.toArray).run P w=.ok (.round p.bd f tmps assign body) w∧
  RoundIn (bQ none) 0 P p.bd f tmps assign body w fun e ak=>∃ar x,e=.returned x∧E.le ar∧Rel ar v x∧aW au ar aa ak:=by
 unfold wL at he
 have af:=s.at ag
 cases aD:h.get b<;>rw [aD] at he af<;>simp only at he<;>try (cases he;done)
 rename_i l
 obtain ⟨p',o,fv,cS,a8,aH⟩:=af
 rw [ag] at fv;cases fv
 obtain ⟨bs,cV,b3,k1,cF,fk,eT,fl⟩:=aH
 obtain ⟨aq,he⟩:=ix he
 simp only [Bool.and_eq_true,Nat.beq_eq] at aq
 obtain ⟨bB,bX,c3,fq⟩:=aq
 have hlen:=aj.length
 have yG:o.params.size=xs.length:=by rw [←Array.length_toList,b3,hlen,bB]
 refine ⟨o.fn,(o.params.zip xs.toArray).foldl (fun tmps (t,a)=>tmps.setIfInBounds t a) o.tmps,o.assign,o.body,?_,?_⟩
 · simp only [Instr.yield,Sem.run_bind,run_getLoop a8,Result.andThen_ok]
   rw [if_neg (by simp [yG])]
   rfl
 · rw [k1,cF]
   refine roundIn_of_wpIn (F:=bQ none) trivial ?_
   have nq:RegRel0 E l.an l.r ⟨o.tmps,[]⟩:=⟨fk,eT⟩
   rw [←b3] at bX he
   have b6:=(Lu bX aj nq).N8 .bad
   have k:ei E l.an (T.put .bad .bad dT (oM o.params.toList args l.r)) ⟨(o.params.zip xs.toArray).foldl (fun t (p:Nat × Value)=>t.setIfInBounds p.1 p.2) o.tmps,[]⟩:=⟨b6,by rw [T.gj,if_pos rfl];simp [iR]⟩
   have Vw:=hex l.an l.assign (some p.bd) au _ h (.inr c3) E _ w k s (Exit.then (fun nU o5=>∃wW,(Instr.beginRound p.bd).run P o5=.ok () wW∧
    l.body.wpIn (bQ (some p.bd)) 0 P (roundPost P p.bd fun e ak=>∃ar x,e=.returned x∧E.le ar∧Rel ar v x∧aW au ar aa ak) nU wW) (fun _ _ _=>False))
   refine (Vw ?_).wp
   cases ao:ex l.an l.assign (T.put .bad .bad dT (oM o.params.toList args l.r)) h with
   | fail=>rw [ao] at he;cases he
   | b' _ _ _=>rw [ao] at he;cases he
   | ok e aae U=>
     rw [ao] at he
     cases e<;>simp only at he<;>try (cases he;done)
     intro eU bN bL ai ay aK
     unfold zR at he
     have gJ:=ai _ _ ag
     have hc:=aK.at gJ
     cases IT:U.get b<;>rw [IT] at he hc<;>simp only at he<;>try (cases he;done)
     rename_i e3
     obtain ⟨bY,cQ,vt,n',nc,ot⟩:=hc
     rw [gJ] at vt;cases vt
     obtain ⟨cb,he⟩:=ix he
     rw [Nat.beq_eq] at cb
     obtain ⟨t1,t2,t3,t4,t5,t6,t7,t8⟩:=ot
     obtain ⟨g1,g2⟩:=aK.loop (P:=P) (dY:=⟨1,e3.ep,e3.d,e3.an,e3.r,e3.a',e3.assign,e3.body⟩) (bR:={cQ with state:=.busy}) IT gJ n' nc ⟨rfl,t2,t3,t4,t5,t6,t7,t8⟩
     refine ⟨{bL with heap:=bL.heap.setIfInBounds p.bd (.loop {cQ with state:=.busy})},?_,?_⟩
     · have vA:cQ.state=.ready:=by rw [t1,cb];rfl
       simp only [Instr.beginRound,Sem.run_bind,run_getLoop nc,Result.andThen_ok,g1,vA,Sem.run_pure]
     · refine (hex l.an l.body (some p.bd) au _ _ (.inr fq) eU _ _ ay g2 _ ?_).wp
       cases ts:ex l.an l.body aae (U.set b (.dq ⟨1,e3.ep,e3.d,e3.an,e3.r,e3.a',e3.assign,e3.body⟩)) with
       | fail=>rw [ts] at he;cases he
       | b' _ _ _=>rw [ts] at he;cases he
       | ok aM adT ad=>
         rw [ts] at he
         simp only at he
         intro bM a2 bH ca z2 z3
         exact LS z3 (ca _ _ gJ) he fun x ak dp eF=>⟨bM,x,rfl,ai.trans ca,dp,eF⟩
theorem Q7 (cO:C.P.follows .mixedOrders=true) (bt:dJ C.P) (fh:lT C) {ex:gg} (hex:o9 C.P ex):fe C.P (n0 C ex) where
 fn:=by
  intro au f args h v aa ax he E w xs aj s
  unfold n0 at he
  rw [fM,if_neg ax] at he
  cases ao:C.ext f with
  | some p=>
    rw [ao] at he
    simp only at he
    cases aH:p.run args h with
    | fail=>rw [aH] at he;cases he
    | b' _ _=>rw [aH] at he;cases he
    | val v1 U=>
      rw [aH] at he
      simp only [aT.EC,aT.val.injEq] at he
      obtain ⟨rfl,rfl⟩:=he
      exact .inr (fh.2 f p args h _ _ ao aH au E w xs aj s)
  | none=>
  rw [ao] at he
  simp only at he
  exact .inl (x9 bt cO fh hex aj s (by rw [he];exact fun ar x ak ai ay aK=>⟨ar,x,rfl,ai,ay,aK⟩))
 b':=by
  intro au f args h v aa ax he E w xs aj s
  unfold n0 at he
  rw [fM,if_neg ax] at he
  cases ao:C.ext f with
  | some p=>
    rw [ao] at he
    simp only at he
    cases aH:p.run args h<;>rw [aH] at he<;>cases he
  | none=>
  rw [ao] at he
  simp only at he
  exact x9 bt cO fh hex aj s (by rw [he];exact fun ar x ak ai ay aK=>⟨ar,x,rfl,ai,ay,aK⟩)
 MT:=by
  intro au args b h v aa he E w xs p aj s ag
  unfold n0 at he
  rw [fM,if_pos rfl] at he
  unfold Fg at he
  rw [Mf] at he
  exact aaG hex he aj s ag
 MU:=by
  intro args h v aa he
  unfold n0 at he
  rw [fM,if_pos rfl] at he
  have aF:∀b e h,rX b e h≠.b' v aa:=by
   intro b e h he
   unfold rX at he
   split at he
   · cases e<;>cases he
   · cases he
  have aM:∀an c b r h,zR ex an c b r h≠.b' v aa:=by
   intro an c b r h he
   unfold zR at he
   split at he
   case h_2=>cases he
   rename_i l aj
   cases aq:Nat.beq l.st 0 with
   | false=>rw [aq] at he;cases he
   | true=>
     rw [aq] at he
     simp only [cond_true] at he
     split at he
     · exact aF _ _ _ he
     · cases he
  have cm:∀xs b h,wL ex xs b h≠.b' v aa:=by
   intro xs b h he
   unfold wL at he
   split at he
   case h_2=>cases he
   rename_i l aj
   cases aq:(Nat.beq xs.length l.a'.length&&(lI l.an l.a'&&(noMark l.assign&&noMark l.body))) with
   | false=>rw [aq] at he;cases he
   | true=>
     rw [aq] at he
     simp only [cond_true] at he
     split at he
     case h_2=>cases he
     rename_i e r U _
     cases e<;>simp only at he<;>try (cases he;done)
     exact aM _ _ _ _ _ he
  unfold Fg at he
  split at he
  case h_2=>cases he
  split at he
  case h_2=>cases he
  exact cm _ _ _ he
end
end Go.Proofs.YtkehcalakofigaaGreatDoor.aY
namespace Go.Proofs.YtkehcalakofigaaGreatDoor.aY
variable [Lay]
open Go Go.RowKit
section
variable {C:Ctx}
theorem Su {P:Program} {e:cY} {Q:Exit→Act→World→Prop} {a:Act} {w:World} (h:Q (toExit e) a w):(Co e).wpIn (bQ none) 0 P Q a w:=by
 cases e with
 | normal=>exact wpIn_skip h
 | exit id=>exact wpIn_exit h
 | ret=>exact wpIn_ret h
theorem aan (cO:C.P.follows .mixedOrders=true) (bt:dJ C.P) (fh:lT C) {ex:gg} (hex:o9 C.P ex) {f:Operand} {a':Array Tmp} {assign body:Code} {an:Nat} {au:Fr} {E:Env} {r:bp} {h:ae} {a:Act} {w:World} {Q:Exit→Act→World→Prop}
 (k:ei E an r a) (s:aW au E h w) (ag:sl au E an Q (E3 (fun g args h=>(sQ C g).run ex args h) (bA f) a'.toList an assign body r h)):(Code.rangeFunc f a' assign body).wpIn (bQ none) 0 C.P Q a w:=by
 unfold E3 at ag
 have ax:=c7 k.toRegRel0 f
 generalize (bA f).run r=r6 at ag ax
 cases r6<;>simp only at ag<;>try (exact ag.elim)
 rename_i g cs
 rw [fM] at ag
 by_cases aD:g=cJ
 · rw [if_pos aD] at ag;exact ag.elim
 · rw [if_neg aD] at ag
   simp only [Rel] at ax
   rcases ax with ⟨_,dP,cK,aj⟩ | ⟨C8,_⟩
   case inr=>exact absurd C8 aD
   refine wpIn_rangeFunc fun fn _=>?_
   have f0:=s.fresh h.next (Nat.le_refl _)
   obtain ⟨eU,qY⟩:∃eU,eU=E.put (aG h.next) ⟨w.heap.size,0,0⟩:=⟨_,rfl⟩
   obtain ⟨bL,kR⟩:∃bL:World,bL={w with heap:=w.heap.push (.deferred (some []))}:=⟨_,rfl⟩
   have vw:eU (aG h.next)=some ⟨w.heap.size,0,0⟩:=by rw [qY];unfold Env.put;rw [if_pos rfl]
   have s1:aW au eU (h.new .eX) bL:=by
    rw [qY,kR]
    refine s.alloc 0 ⟨⟨w.heap.size,0,0⟩,by unfold Env.put;rw [if_pos rfl],s.frame.size,by simp⟩
   have lC:E.le eU:=by rw [qY];exact Env.jj f0
   have ru:bL.heap.size=w.heap.size+1:=by rw [kR];simp
   obtain ⟨o,aP⟩:∃o:Loop,o={state:=.ready,pending:=none,fn,tmps:=a.tmps,params:=a',assign,body,defers:=w.heap.size}:=⟨_,rfl⟩
   obtain ⟨bM,n_⟩:∃bM,bM=eU.put (aG (h.next+1)) ⟨bL.heap.size,0,0⟩:=⟨_,rfl⟩
   obtain ⟨bH,nj⟩:∃bH:World,bH={bL with heap:=bL.heap.push (.loop o)}:=⟨_,rfl⟩
   have f1:eU (aG (h.next+1))=none:=s1.fresh (h.next+1) (Nat.le_refl _)
   have ji:eU.le bM:=by rw [n_];exact Env.jj f1
   have vx:bM (aG (h.next+1))=some ⟨bL.heap.size,0,0⟩:=by rw [n_];unfold Env.put;rw [if_pos rfl]
   have dq:qx bM ⟨0,none,aG h.next,an,r,a'.toList,assign,body⟩ o:=by
    subst aP
    exact ⟨rfl,rfl,rfl,rfl,rfl,k.size,fun t aB=>Rel.mono (lC.trans ji) _ _ (k.av t aB),_,ji _ _ vw,rfl⟩
   have s2:aW au bM ((h.new .eX).new (.dq ⟨0,none,aG h.next,an,r,a'.toList,assign,body⟩)) bH:=by
    rw [n_,nj]
    refine s1.alloc 0 ⟨⟨bL.heap.size,0,0⟩,o,by show eU.put (aG (h.next+1)) _ (aG (h.next+1))=_;unfold Env.put;rw [if_pos rfl],by show au.w.heap.size≤bL.heap.size;rw [ru];have:=s.frame.size;omega,by simp,?_⟩
    have:=dq
    rw [n_] at this
    exact this
   obtain ⟨ga,mh⟩:∃ga,ga=bL.heap.size:=⟨_,rfl⟩
   have a1:Rel bM (.func cJ [.ptr (aG (h.next+1)) 0]) (.func (.yield ga) #[] #[]):=by
    simp only [Rel]
    exact .inr ⟨trivial,_,_,rfl,vx,by rw [mh]⟩
   have l':aZ bM (.func cJ [.ptr (aG (h.next+1)) 0]::cs) (.func (.yield ga) #[] #[]::dP.toList):=by
    simp only [aZ]
    exact ⟨_,_,rfl,a1,aZ.mono (lC.trans ji) _ _ aj⟩
   have cp:=x9 (C:=C) bt cO fh hex (f:=g) l' s2 (R:=rangePost (bQ none) 0 C.P ga Q {a with defers:=[{target:=.collected w.heap.size,args:=#[]}]++a.defers})
   cases aH:(sQ C g).run ex (.func cJ [.ptr (aG (h.next+1)) 0]::cs) ((h.new .eX).new (.dq ⟨0,none,aG h.next,an,r,a'.toList,assign,body⟩)) with
   | fail=>rw [aH] at ag;exact ag.elim
   | b' _ _=>rw [aH] at ag;exact ag.elim
   | val v aa=>
     rw [aH] at ag cp
     simp only at ag
     obtain ⟨⟨SN,gk,af⟩,aq⟩:=cp (by
      intro ar x ak ai ay aK
      simp only [rangePost]
      unfold LB at ag
      have h':=ai _ _ vx
      have af:=aK.at h'
      cases og:aa.get (aG (h.next+1))<;>rw [og] at ag af<;>simp only at ag<;>try (exact ag.elim)
      rename_i l
      obtain ⟨p',bR,fv,cS,a8,Dl⟩:=af
      rw [h'] at fv;cases fv
      obtain ⟨t1,t2,t3,t4,t5,t6,t7,t8⟩:=Dl
      rw [fM] at ag
      by_cases cb:l.st=1
      · rw [if_pos cb] at ag;exact ag.elim
      · rw [if_neg cb] at ag
        simp only at a8
        rw [←mh] at a8
        have Dt:(bR.state == LoopState.busy)=false:=by
         rw [t1]
         match oh:l.st with
         | 0=>rfl
         | 1=>exact absurd oh cb
         | n+2=>rfl
        have i':=(Array.getElem?_eq_some_iff.1 a8).1
        let hK:World:={ak with heap:=ak.heap.setIfInBounds ga (.loop {bR with state:=.exhausted})}
        have eP:(Instr.endLoop ga).run C.P ak=.ok bR.pending hK:=by
         have ou:(setObj ga (.loop {bR with state:=.exhausted})).run C.P ak=.ok () hK:=by simp only [setObj,Sem.run,a8];rfl
         simp only [Instr.endLoop,Sem.run_bind,run_getLoop a8,Result.andThen_ok,Dt,Bool.false_eq_true,if_false,ou,Sem.run_pure]
        have uc:aW au ar (aa.set (aG (h.next+1)) .dead) hK:=by
         refine aK.gone (p:=⟨bL.heap.size,0,0⟩) (by rw [og];rfl) h' cS (by simp [hK]) (fun j bG=>?_) rfl rfl rfl
         simp only at bG
         simp only [hK,Array.getElem?_setIfInBounds]
         rw [if_neg (fun e=>bG (by rw [←e,mh]))]
        have fG:ei ar an (T.put .bad (.tuple (.ptr (aG h.next) 0::(T.get .bad dT r).list)) dT r) {a with defers:=[{target:=.collected w.heap.size,args:=#[]}]++a.defers}:=by
         refine ⟨⟨k.size,fun t aB=>?_⟩,?_⟩
         · rw [T.gj,if_neg (fun e=>rN aB e.symm)]
           exact Rel.mono (lC.trans (ji.trans ai)) _ _ (k.av t aB)
         · rw [T.gj,if_pos rfl]
           simp only [iR,kz,List.cons_append,List.nil_append]
           exact ⟨_,_,rfl,⟨_,ai _ _ (ji _ _ vw),rfl⟩,(k.defers.mono (lC.trans (ji.trans ai))).list⟩
        refine ⟨bR.pending,hK,eP,?_⟩
        rw [t2]
        cases h9:l.ep with
        | none=>
          rw [h9] at ag
          exact ag ar _ hK (lC.trans (ji.trans ai)) fG uc
        | some e=>
          rw [h9] at ag
          exact Su (ag ar _ hK (lC.trans (ji.trans ai)) fG uc))
     refine ⟨ga,[{target:=.collected w.heap.size,args:=#[]}],bH,{target:=.fn (.func g) dP,args:=#[]++#[.func (.yield ga) #[] #[]]},bH,g,_,bH,?_,?_,fun _ _=>trivial,?_,fun h=>by simp at h,pk.2 aq⟩
     · subst aP nj kR
       have he:=run_enterLoop_outer (P:=C.P) (w:=w) fn a.tmps a' assign body
       rw [World.alloc,World.alloc] at he
       simp only [Array.size_push] at mh ⊢
       rw [mh]
       exact he
     · simp only [resolve,cK,Deferred.ofValue,Sem.run_pure]
       simp [Act.eval]
     · simp only [invoke]
       have e:(#[]++#[Value.func (.yield ga) #[] #[]]:Array Value)++dP=(Value.func (.yield ga) #[] #[]::dP.toList).toArray:=by apply Array.ext';simp
       rw [e]
       exact p_ bt gk af _ bH
theorem uh {P:Program} {b:Frame} {a:Act} {k:List Item} {cs:List Frame} {w:World} {c:Code}:
 step P (lone (b.atR a (.code (.scope c)::k)) cs w)=.next (lone (b.atR a (.code c::.inScope c::k)) cs w):=
 step_lone_go (by simp [stepG,stepG.exec,Frame.atR])
theorem abt {P:Program} {b:Frame} {a:Act} {k:List Item} {cs:List Frame} {w:World} {c:Code}:
 step P (lone (b.atR a (.inScope c::k)) cs w)=.next (lone (b.atR a k) cs w):=
 step_lone_go (by simp [stepG,stepG.exec,Frame.atR])
theorem L3 {P:Program} {rd:Option Nat} {c:Code} {Q:Exit→Act→World→Prop} {a:Act} {w:World} (h:c.wpIn (bQ rd) 0 P (Exit.noGoto Q) a w):(Code.scope c).wpIn (bQ rd) 0 P Q a w:=by
 intro b k cs jb af aH
 obtain ⟨e,nU,o5,aE,hv⟩:=h b (.inScope c::k) cs jb af aH
 have ao:∀id,exitTo id (.inScope c::k)=exitTo id k:=fun id=>by simp [exitTo]
 cases e with
 | normal=>exact ⟨.normal,nU,o5,aE,.head (m' _) uh (StepsIn.trans hv (.one (m' _) abt))⟩
 | exit id=>exact ⟨.exit id,nU,o5,aE,fun bl az=>.head (m' _) uh (hv.1 bl (by rw [ao];exact az)),fun oq az=>let ⟨k₁,U,ad⟩:=hv.2 oq (by rw [ao];exact az);⟨k₁,U,.head (m' _) uh ad⟩⟩
 | goto l=>exact aE.elim
 | ret=>exact ⟨_,nU,o5,aE,.of_steps (.one (m' _) uh) hv⟩
 | panic acZ=>exact ⟨_,nU,o5,aE,.of_steps (.one (m' _) uh) hv⟩
 | outgrown=>exact ⟨_,nU,o5,aE,.of_steps (.one (m' _) uh) hv⟩
theorem RB (cO:C.P.follows .mixedOrders=true) (bt:dJ C.P) (fh:lT C) {ex:gg} (hex:o9 C.P ex) (an:Nat):∀c:Code,FT C.P an c ((g_ C an c).run ex):=by
 have cp:=Q7 cO bt fh hex
 have cZ:=Q6 (C:=C) ex
 intro c
 induction c with
 | skip=>
   intro rd au r h aH E a w k s Q ag
   exact wpIn_skip (ag E a w (Env.le.refl E) k s)
 | label l=>
   intro rd au r h aH E a w k s Q ag
   exact wpIn_label (ag E a w (Env.le.refl E) k s)
 | exit id=>
   intro rd au r h aH E a w k s Q ag
   exact wpIn_exit (ag E a w (Env.le.refl E) k s)
 | ret=>
   intro rd au r h aH E a w k s Q ag
   exact wpIn_ret (ag E a w (Env.le.refl E) k s)
 | region id ops draw=>
   intro rd au r h aH E a w k s Q ag
   have lift:∀x:k9,sl au E an Q (match x with | .ok bo aa=>.ok .normal bo aa | .b' v bo aa=>.b' v bo aa | .fail=>.fail)→kD au E an (Q .normal) Q x:=by
    intro x ao
    cases x<;>exact ao
   cases draw with
   | true=>
     simp only [g_,cond_true,zN] at ag
     exact R8 cO bt cp cZ (lift _ ag) k s
   | false=>
     simp only [g_,cond_false,zN] at ag
     refine wpIn_region ?_
     have:=K1 (rd:=rd) (Q:=Q) bt cp cZ ops.toList 0 (fun j=>by simp) (aH.imp (fun h=>h) fun h=>by simpa only [noMark,List.all_eq_true] using h) E r h a w (lift _ ag) k s
     rw [List.range_eq_range']
     simpa using this
 | seq x y rA rB=>
   intro rd au r h aH E a w k s Q ag
   simp only [g_,L4] at ag
   have ti:rd=none∨noMark x=true:=aH.imp (fun h=>h) fun h=>by simp only [noMark,Bool.and_eq_true] at h;exact h.1
   have DO:rd=none∨noMark y=true:=aH.imp (fun h=>h) fun h=>by simp only [noMark,Bool.and_eq_true] at h;exact h.2
   refine wpIn_seq (rA rd au r h ti E a w k s _ ?_).wp
   cases ao:(g_ C an x).run ex r h with
   | fail=>rw [ao] at ag;exact ag
   | b' v bs U=>rw [ao] at ag;exact ag
   | ok aF bs U=>
     rw [ao] at ag
     simp only at ag
     intro ar bf ak ai ay aK
     cases aF with
     | normal=>exact (rB rd au bs U DO ar bf ak ay aK Q (ag.up ai)).wp
     | exit id=>exact ag ar bf ak ai ay aK
     | ret=>exact ag ar bf ak ai ay aK
 | cond c x y rA rB=>
   intro rd au r h aH E a w k s Q ag
   simp only [g_,Hd] at ag
   have ti:rd=none∨noMark x=true:=aH.imp (fun h=>h) fun h=>by simp only [noMark,Bool.and_eq_true] at h;exact h.1
   have DO:rd=none∨noMark y=true:=aH.imp (fun h=>h) fun h=>by simp only [noMark,Bool.and_eq_true] at h;exact h.2
   have aq:=c7 k.toRegRel0 c
   cases bw:(bA c).run r<;>rw [bw] at ag aq<;>simp only at ag<;>try (exact ag.elim)
   rename_i t
   simp only [Rel] at aq
   cases t with
   | true=>exact wpIn_cond_true aq (rA rd au r h ti E a w k s Q ag).wp
   | false=>exact wpIn_cond_false aq (rB rd au r h DO E a w k s Q ag).wp
 | block id x bh=>
   intro rd au r h aH E a w k s Q ag
   simp only [g_,GH] at ag
   refine wpIn_block (bh rd au r h (aH.imp (fun h=>h) fun h=>h) E a w k s _ ?_).wp
   cases ao:(g_ C an x).run ex r h with
   | fail=>rw [ao] at ag;exact ag
   | b' v bs U=>rw [ao] at ag;exact ag
   | ok aF bs U=>
     rw [ao] at ag
     simp only at ag
     intro ar bf ak ai ay aK
     cases aF with
     | normal=>exact ag ar bf ak ai ay aK
     | ret=>exact ag ar bf ak ai ay aK
     | exit i=>
       simp only [fM] at ag
       simp only [toExit,Exit.inBlock]
       by_cases aC:i=id
       · rw [if_pos aC] at ag ⊢;exact ag ar bf ak ai ay aK
       · rw [if_neg aC] at ag ⊢;exact ag ar bf ak ai ay aK
 | loop x bh=>
   intro rd au r h aH E a w k s Q ag
   simp only [g_,Kq] at ag
   have ti:rd=none∨noMark x=true:=aH.imp (fun h=>h) fun h=>h
   intro b cc cs jb
   cases ao:(g_ C an x).run ex r h with
   | fail=>rw [ao] at ag;exact ag.elim
   | b' v bs U=>
     rw [ao] at ag
     have body:=(bh rd au r h ti E a w k s (fun cN bf ak=>∃y,cN=.panic y∧Q cN bf ak) (by rw [ao];exact fun ar bf ak x ai ay aK bE=>⟨_,rfl,ag ar bf ak x ai ay aK bE⟩)).wp b (.inLoop x::cc) cs jb trivial (Ff _)
     obtain ⟨aM,a2,bH,⟨y,rfl,q⟩,hv⟩:=body
     exact ⟨_,a2,bH,q,.pass (x:=.inLoop x) rfl (fun _ _=>.inl (by simp)) hv⟩
   | ok aF bs U=>
     rw [ao] at ag
     simp only at ag
     have body:=(bh rd au r h ti E a w k s
      (fun cN bf ak=>cN=toExit aF∧∃ar,E.le ar∧ei ar an bs bf∧aW au ar U ak) (by rw [ao];exact fun ar bf ak ai ay aK=>⟨rfl,ar,ai,ay,aK⟩)).wp b (.inLoop x::cc) cs jb trivial (Ff _)
     obtain ⟨aM,a2,bH,⟨rfl,bM,ai,ay,aK⟩,hv⟩:=body
     cases aF with
     | normal=>
       have next:=hex an (.loop x) rd au bs U aH bM a2 bH ay aK Q (ag.up ai)
       obtain ⟨cm,a3,lP,bY,b9⟩:=next b cc cs jb
       exact ⟨cm,a3,lP,bY,.of_steps (StepsIn.trans hv (.one (m' _) stepR_inLoop)) b9⟩
     | exit id=>exact ⟨.exit id,a2,bH,ag bM a2 bH ai ay aK,.pass (x:=.inLoop x) rfl (fun _ _=>.inl (by simp)) hv⟩
     | ret=>exact ⟨.ret,a2,bH,ag bM a2 bH ai ay aK,.pass (x:=.inLoop x) rfl (fun _ _=>.inl (by simp)) hv⟩
 | scope x bh=>
   intro rd au r h aH E a w k s Q ag
   simp only [g_] at ag
   refine L3 (bh rd au r h (aH.imp (fun h=>h) fun h=>h) E a w k s _ ?_).wp
   cases ao:(g_ C an x).run ex r h with
   | fail=>rw [ao] at ag;exact ag
   | b' v bs U=>rw [ao] at ag;exact ag
   | ok aF bs U=>
     rw [ao] at ag
     intro ar bf ak ai ay aK
     have:=ag ar bf ak ai ay aK
     cases aF<;>exact this
 | rangeFunc f a' x y _ _=>
   intro rd au r h aH E a w k s Q ag
   rcases aH with rfl | aH
   case inr=>cases aH
   simp only [g_] at ag
   exact aan cO bt fh hex k s ag
 | goto l=>intro rd au r h aH E a w k s Q ag;exact ag.elim
 | refuse acf=>intro rd au r h aH E a w k s Q ag;exact ag.elim
end
end Go.Proofs.YtkehcalakofigaaGreatDoor.aY
namespace Go.Proofs.YtkehcalakofigaaGreatDoor.aY
variable [Lay]
open Go Go.RowKit
section
variable {C:Ctx}
theorem HU (cO:C.P.follows .mixedOrders=true) (bt:dJ C.P) (fh:lT C):∀n,o9 C.P (exec C n)
 | 0=>fun an c rd au r h aH E a w k s Q ag=>ag.elim
 | n+1=>fun an c=>RB cO bt fh (HU cO bt fh n) an c
theorem B2 (cO:C.P.follows .mixedOrders=true) (bt:dJ C.P) (fh:lT C) {n:Nat} {f:FuncId} {args:List V} {h aa:ae} {v:V} (ax:Nat.beq f cJ=false) (ao:C.ext f=none) (he:nZ C n f args h=.val v aa)
 {au:Fr} {E:Env} {w:World} {xs:List Value} (aj:aZ E args xs) (s:aW au E h w):
 (∃fn,C.P.funcs[f]? =some fn∧fn.body.isSome=true)∧Calls C.P f xs.toArray w fun e ak=>∃ar x,e=.returned x∧E.le ar∧Rel ar v x∧aW au ar aa ak:=by
 unfold nZ n0 at he
 rw [ax,cond_false,ao] at he
 simp only at he
 exact x9 bt cO fh (HU cO bt fh n) aj s (by rw [he];exact fun ar x ak ai ay aK=>⟨ar,x,rfl,ai,ay,aK⟩)
theorem zY (w:World) (hw:Lay.ok w):aW ⟨w,fun _=>none⟩ (fun _=>none) ae.empty w:=by
 refine ⟨fun b _=>?_,fun _ _ h=>(by cases h),(fun b bz p p' _ _ h=>by cases h),fun _ _=>rfl,Below.refl _ _,hw,(fun _ _ _ _ _ _ h=>by cases h)⟩
 have:ae.empty.get b=.dead:=by simp [ae.get,ae.empty]
 rw [this]
 trivial
theorem abY (cO:C.P.follows .mixedOrders=true) (bt:dJ C.P) {w:World} (hw:Lay.ok w) (fh:lT C) {n:Nat} {f:FuncId} (ax:Nat.beq f cJ=false) (ao:C.ext f=none) (h:FD C n f []=true):
 Calls C.P f #[] w fun e ak=>e=.returned (.bool true)∧Below w.heap.size w ak:=by
 unfold FD at h
 cases aq:nZ C n f [] ae.empty with
 | fail=>rw [aq] at h;cases h
 | b' _ _=>rw [aq] at h;cases h
 | val v a8=>
   rw [aq] at h
   simp only at h
   cases v<;>simp only at h<;>try (cases h;done)
   subst h
   obtain ⟨_,hx⟩:=B2 cO bt fh ax ao aq (au:=⟨w,fun _=>none⟩) (E:=fun _=>none) (w:=w) (xs:=[]) rfl (zY w hw)
   refine hx.mono fun e ak aE=>?_
   obtain ⟨ar,x,rfl,_,ay,aK⟩:=aE
   simp only [Rel] at ay
   subst ay
   exact ⟨rfl,aK.frame⟩
end
end Go.Proofs.YtkehcalakofigaaGreatDoor.aY
namespace Go.Proofs.YtkehcalakofigaaGreatDoor.aY
variable [Lay]
open Go Go.RowKit Go.ChangeShapes Go.WideShapes
section
variable {H:Type} {enc:TypeId × Value→H} {P:Program}
end
end Go.Proofs.YtkehcalakofigaaGreatDoor.aY
namespace Go.Proofs.YtkehcalakofigaaGreatDoor.aY
variable [Lay]
open Go Go.RowKit
theorem aW.below {au:Fr} {E:Env} {h:ae} {w ak:World} (s:aW au E h w) (af:Below w.heap.size w ak):aW au E h ak:=by
 have b4:au.w.heap.size≤w.heap.size:=s.frame.size
 have fH:∀(k:Nat) (o:Obj),w.heap[k]? =some o→ak.heap[k]? =some o:=by
  intro k o az
  rw [af.block k,az]
  by_cases aO:k<w.heap.size
  · exact aO
  · rw [Array.getElem?_eq_none (by omega)] at az
    cases az
 refine ⟨fun b ag=>?_,s.lH,s.inj,s.fresh,s.frame.trans (af.mono b4),s.laid,s.base⟩
 have:=s.bd b ag
 cases az:h.get b<;>rw [az] at this<;>simp only [e7] at this ⊢
 · obtain ⟨ai,p,c,el,bF,ay,aK,bE,dr⟩:=this
   exact ⟨ai,p,c,el,bF,ay,aK,fH _ _ bE,dr⟩
 · obtain ⟨ai,p,c,el,bF,ay,aK,bE,dr⟩:=this
   exact ⟨ai,p,c,el,bF,ay,aK,fH _ _ bE,dr⟩
 · obtain ⟨p,ai,ay,aK,bE⟩:=this
   exact ⟨p,ai,ay,aK,fH _ _ bE⟩
 · obtain ⟨p,a,ai,ay,aK,bE⟩:=this
   exact ⟨p,a,ai,ay,fH _ _ aK,bE⟩
 · obtain ⟨p,o,ai,ay,aK,bE⟩:=this
   exact ⟨p,o,ai,ay,fH _ _ aK,bE⟩
 · obtain ⟨p,ai,ay,aK⟩:=this
   exact ⟨p,ai,ay,fH _ _ aK⟩
 · obtain ⟨p,a,c,l,ai,ay,aK,bE⟩:=this
   exact ⟨p,a,c,l,ai,ay,fH _ _ aK,bE⟩
 · obtain ⟨p,m,a,ai,ay,aK,bE,dr⟩:=this
   exact ⟨p,m,a,ai,ay,aK,fH _ _ bE,dr⟩
theorem XZ {P:Program} {f:FuncId} {args:List V} {v:V} {h:ae} (H:∀E xs w,Lay.ok w→aZ E args xs→Calls P f xs.toArray w fun e ak=>∃x,e=.returned x∧Rel E v x∧Below w.heap.size w ak)
 (au:Fr) (E:Env) (w:World) (xs:List Value) (ao:aZ E args xs) (s:aW au E h w):Calls P f xs.toArray w fun e ak=>∃ar x,e=.returned x∧E.le ar∧Rel ar v x∧aW au ar h ak:=by
 refine (H E xs w (Lay.fH s.laid s.frame) ao).mono fun e ak q=>?_
 obtain ⟨x,rfl,bw,af⟩:=q
 exact ⟨E,x,rfl,Env.le.refl E,bw,s.below af⟩
theorem Sw {P:Program} {f:FuncId} {fn:Func} {e:Array Value→Sem Value} (ax:P.funcs[f]? =some fn) (a7:(fn.name == "runtime.NumGoroutine")=false) (af:fn.body.isNone=true) (U:Extern.findNext fn=none) (ad:Extern.find fn=some e)
 {xs:Array Value} {x:Value} {w:World} (aH:(e xs).run P w=.ok x w):(callFunc f xs).run P w=.ok (.value x) w:=by
 simp only [callFunc,Sem.run_bind,run_program,Result.andThen_ok,ax]
 rw [if_neg (by rw [a7];simp),if_pos af]
 simp only [Sem.run_bind,U,ad]
 have hm:(mark (.extern f)).run P w=.ok () w:=rfl
 rw [hm]
 simp only [Result.andThen_ok,aH,Sem.run_pure]
def vP (c:Nat):List UInt8→Nat→Int
 | [],_=>-1
 | b::l,i=>bif Nat.beq b.toNat c then .ofNat i else vP c l (i+1)
theorem JU (c:Nat) (aq:c<256):∀(l:List UInt8) (i:Nat),vP c l i=if Lib.indexByte l c.toUInt8=-1 then -1 else Lib.indexByte l c.toUInt8+i
 | [],i=>by simp [vP,Lib.indexByte]
 | b::l,i=>by
   have hy:=Lib.indexByte_ge l c.toUInt8
   have pz:(b.toNat=c)↔(b == c.toUInt8)=true:=by
    rw [beq_iff_eq,←UInt8.toNat_inj]
    have:c.toUInt8.toNat=c:=by
     show c % 256=c
     omega
    rw [this]
   have e:Lib.indexByte (b::l) c.toUInt8=if (b == c.toUInt8)=true then 0 else if (Lib.indexByte l c.toUInt8 == -1)=true then -1 else Lib.indexByte l c.toUInt8+1:=rfl
   simp only [vP,JU c aq l (i+1),fM]
   by_cases h:b.toNat=c
   · rw [if_pos (pz.1 h)] at e
     rw [if_pos h,e]
     simp
   · rw [if_neg (fun e=>h (pz.2 e))] at e
     rw [if_neg h]
     by_cases ad:Lib.indexByte l c.toUInt8=-1
     · rw [ad] at e
       simp only [beq_self_eq_true,if_true] at e
       simp [ad,e]
     · have aI:(Lib.indexByte l c.toUInt8 == -1)=false:=by simpa using ad
       rw [aI] at e
       simp only [Bool.false_eq_true,if_false] at e
       rw [if_neg ad,e,if_neg (by omega)]
       omega
def preB:List UInt8→List UInt8→Bool
 | [],_=>true
 | _::_,[]=>false
 | a::x,b::y=>bif Nat.beq a.toNat b.toNat then preB x y else false
theorem EV:∀(x y:List UInt8),preB x y=x.isPrefixOf y
 | [],y=>by cases y<;>rfl
 | _::_,[]=>rfl
 | a::x,b::y=>by
   simp only [preB,List.isPrefixOf,fM,EV x y]
   by_cases h:a.toNat=b.toNat
   · have:a=b:=UInt8.toNat_inj.1 h
     subst this
     simp
   · have:(a == b)=false:=by
      rw [beq_eq_false_iff_ne]
      exact fun e=>h (by rw [e])
     rw [if_neg h,this]
     rfl
def hasB:List UInt8→List UInt8→Bool
 | [],sub=>preB sub []
 | b::l,sub=>bif preB sub (b::l) then true else hasB l sub
theorem IB:∀(s sub:List UInt8),hasB s sub=Lib.contains s sub
 | [],sub=>by
   simp only [hasB,EV,Lib.contains,Lib.index]
   cases sub<;>simp
 | b::l,sub=>by
   simp only [hasB,EV]
   have bh:=IB l sub
   unfold Lib.contains at bh ⊢
   unfold Lib.index
   cases h:sub.isPrefixOf (b::l) with
   | true=>simp
   | false=>
     simp only [cond_false,Bool.false_eq_true,if_false,bh]
     have hy:=Lib.index_ge l sub
     cases ad:(Lib.index l sub == -1) with
     | true=>
       have:Lib.index l sub=-1:=by simpa using ad
       simp [this]
     | false=>
       have:Lib.index l sub≠-1:=by simpa using ad
       simp only [Bool.false_eq_true,if_false]
       rw [Bool.eq_iff_iff,decide_eq_true_eq,decide_eq_true_eq]
       omega
def B8:uF:=⟨fun args h=>match args with
 | [x,y]=>(match x with
   | .str s=>(match y with
     | .str sub=>bif Nat.ble s.length 100000 then .val (.bool (hasB s sub)) h else .fail
     | _=>.fail)
   | _=>.fail)
 | _=>.fail⟩
theorem RF {args:List V} {h aa:ae} {v:V} (he:B8.run args h=.val v aa):∃s sub,args=[.str s,.str sub]∧s.length≤100000∧v=.bool (Lib.contains s sub)∧aa=h:=by
 simp only [B8] at he
 split at he
 case h_2=>cases he
 split at he
 case h_2=>cases he
 split at he
 case h_2=>cases he
 obtain ⟨aq,U⟩:=ix he
 simp only [aT.val.injEq] at U
 obtain ⟨rfl,rfl⟩:=U
 exact ⟨_,_,rfl,Nat.le_of_ble_eq_true aq,by rw [IB],rfl⟩
def yS:uF:=⟨fun args h=>match args with
 | [x,y]=>(match x with
   | .str s=>(match y with
     | .int k c=>bif l2 k .u8&&(Int.leB 0 c&&Nat.blt c.toNat 256) then .val (.int .i64 (vP c.toNat s 0)) h else .fail
     | _=>.fail)
   | _=>.fail)
 | _=>.fail⟩
theorem VX {args:List V} {h aa:ae} {v:V} (he:yS.run args h=.val v aa):∃s c,args=[.str s,.int .u8 c]∧v=.int .i64 (Lib.indexByte s c.toNat.toUInt8)∧aa=h:=by
 simp only [yS] at he
 split at he
 case h_2=>cases he
 split at he
 case h_2=>cases he
 split at he
 case h_2=>cases he
 rename_i s _ k c
 obtain ⟨aq,U⟩:=ix he
 simp only [Bool.and_eq_true,Nat.blt_eq] at aq
 have az:=pq aq.1
 subst az
 simp only [aT.val.injEq] at U
 obtain ⟨rfl,rfl⟩:=U
 refine ⟨s,c,rfl,?_,rfl⟩
 rw [JU _ aq.2.2]
 by_cases h:Lib.indexByte s c.toNat.toUInt8=-1
 · rw [if_pos h,h]
 · rw [if_neg h]
   simp
theorem VW {P:Program} {f:FuncId} {fn:Func} (ax:P.funcs[f]? =some fn) (a7:(fn.name == "runtime.NumGoroutine")=false) (af:fn.body.isNone=true) (U:Extern.findNext fn=none) (ad:Extern.find fn=some Extern.BytealgIndexByte.indexByte)
 {args:List V} {h aa:ae} {v:V} (he:yS.run args h=.val v aa) (au:Fr) (E:Env) (w:World) (xs:List Value) (ao:aZ E args xs) (s:aW au E h w):
 ∃ar x ak,(callFunc f xs.toArray).run P w=.ok (.value x) ak∧E.le ar∧Rel ar v x∧aW au ar aa ak:=by
 obtain ⟨t,c,rfl,rfl,rfl⟩:=VX he
 obtain ⟨y,bZ,rfl,ai,z,im,rfl,ay,rfl⟩:=ao
 simp only [Rel] at ai ay
 subst ai ay
 exact ⟨E,_,w,Sw ax a7 af U ad (Lib.run_indexByteString _ _ _),Env.le.refl E,by simp [Rel],s⟩
end Go.Proofs.YtkehcalakofigaaGreatDoor.aY
namespace Go.Proofs.YtkehcalakofigaaGreatDoor.aY
variable [Lay]
open Go Go.RowKit Go.Maps Go.Sort Go.Shelf
open Go.Proofs (encStr)
def uT (clock:Nat):Nat→List bW→Bool
 | _,[]=>true
 | bI,m::ms=>Nat.ble bI m.born&&Nat.blt m.born clock&&uT clock (m.born+1) ms
theorem GJ {clock:Nat}:∀{bI:Nat} {es:List bW},uT clock bI es=true→(∀n ∈ es.map (·.born),bI≤n∧n<clock)∧(es.map (·.born)).Nodup
 | bI,[],_=>⟨by simp,by simp⟩
 | bI,m::ms,h=>by
   simp only [uT,Bool.and_eq_true,Nat.ble_eq,Nat.blt_eq] at h
   obtain ⟨g1,g2⟩:=GJ h.2
   refine ⟨fun n a7=>?_,?_⟩
   · rw [List.map_cons] at a7
     rcases List.mem_cons.1 a7 with rfl | a7
     · exact h.1
     · have:=g1 n a7
       omega
   · rw [List.map_cons]
     refine List.nodup_cons.2 ⟨fun q=>?_,g2⟩
     have:=g1 _ q
     omega
theorem ZU {au:Fr} {E:Env} {h:ae} {w:World} (s:aW au E h w) {b:aN} {q:gO} (aP:(h.get b).own=true) (aE:E b=some q):q.bd<w.heap.size:=by
 have af:=s.at aE
 cases aD:h.get b with
 | dead=>rw [aD] at aP;cases aP
 | view n cs=>rw [aD] at aP;cases aP
 | cells n cs cj st=>rw [aD] at af;obtain ⟨_,dK,c,el,bF,e,_,a8,_⟩:=af;rw [e] at aE;cases aE;exact (Array.getElem?_eq_some_iff.1 a8).1
 | iter st pos=>rw [aD] at af;obtain ⟨dK,e,_,_,a8⟩:=af;rw [e] at aE;cases aE;exact (Array.getElem?_eq_some_iff.1 a8).1
 | mp es clock=>rw [aD] at af;obtain ⟨dK,a,e,_,a8,_⟩:=af;rw [e] at aE;cases aE;exact (Array.getElem?_eq_some_iff.1 a8).1
 | dq l=>rw [aD] at af;obtain ⟨dK,o,e,_,a8,_⟩:=af;rw [e] at aE;cases aE;exact (Array.getElem?_eq_some_iff.1 a8).1
 | eX=>rw [aD] at af;obtain ⟨dK,e,_,a8⟩:=af;rw [e] at aE;cases aE;exact (Array.getElem?_eq_some_iff.1 a8).1
 | gb es=>rw [aD] at af;obtain ⟨dK,a,c,l,e,_,a8,_⟩:=af;rw [e] at aE;cases aE;exact (Array.getElem?_eq_some_iff.1 a8).1
 | gW src since seen last=>rw [aD] at af;obtain ⟨dK,m,a,e,_,_,a8,_⟩:=af;rw [e] at aE;cases aE;exact (Array.getElem?_eq_some_iff.1 a8).1
def nr:List bW→Option (List (List UInt8))
 | []=>some []
 | [m]=>match m.k with
   | .str s=>some [s]
   | _=>none
 | _=>none
def wU:List (List UInt8)→Bool
 | []=>true
 | x::l=>Nat.ble x.length 1000000&&wU l
def Ad (l:List (List UInt8)):List V:=l.map V.str
noncomputable def Md (g:FuncId) (uN:aN) (h:ae):aT:=
 match h.get uN with
 | .cells n cs 0 _=>bif Nat.blt 0 n then (match T.get .bad (aG 0) cs with
   | .map b=>(match h.get b with
     | .mp es clock=>(match nr es with
       | some aJ=>bif uT clock 0 es&&wU aJ then (match aJ with
          | []=>.val .cq h
          | x::l=>(match hE h (Ad (x::l)) 1 false with
            | some aa=>.val (.dQ (aG h.next) 0 (x::l).length 0) aa
            | none=>.fail)) else .fail
       | none=>.fail)
     | _=>.fail)
   | _=>.fail) else .fail
 | _=>.fail
noncomputable def Fo (g:FuncId):uF:=
 ⟨fun args h=>match args with
   | [.func f [.ptr uN 0]]=>bif Nat.beq f g then Md g uN h else .fail
   | _=>.fail⟩
theorem Xf:∀{es:List bW} {aJ:List (List UInt8)},nr es=some aJ→aJ.length=es.length∧aJ.length≤1
 | [],aJ,h=>by simp only [nr,Option.some.injEq] at h;subst h;exact ⟨rfl,by simp⟩
 | [m],aJ,h=>by
   simp only [nr] at h
   split at h
   · simp only [Option.some.injEq] at h;subst h;exact ⟨rfl,by simp⟩
   · cases h
 | _::_::_,aJ,h=>by simp [nr] at h
theorem Xg {E:Env}:∀{es:List bW} {aJ:List (List UInt8)} {l:List MapEntry},nr es=some aJ→df E es l→l.map (·.key)=aJ.map encStr∧l.map (·.born)=es.map (·.born)
 | [],aJ,l,h,aH=>by
   simp only [nr,Option.some.injEq] at h
   simp only [df] at aH
   subst h aH
   exact ⟨rfl,rfl⟩
 | [m],aJ,l,h,aH=>by
   simp only [df] at aH
   obtain ⟨e,l5,rfl,U,ad,aI,rfl⟩:=aH
   simp only [nr] at h
   split at h
   · rename_i n az
     simp only [Option.some.injEq] at h
     subst h
     rw [az] at U
     simp only [Rel] at U
     simp only [List.map_cons,List.map_nil,U,aI]
     exact ⟨by first | rfl | trivial,by first | rfl | trivial⟩
   · cases h
 | _::_::_,aJ,l,h,aH=>by simp [nr] at h
theorem ML:∀{l:List (List UInt8)},wU l=true→∀x ∈ l,x.length≤1000000
 | [],_,x,ao=>by cases ao
 | y::l,h,x,ao=>by
   simp only [wU,Bool.and_eq_true,Nat.ble_eq] at h
   rcases List.mem_cons.1 ao with rfl | ao
   · exact h.1
   · exact ML h.2 x ao
theorem L8 {α:Type} {l m:List α} (h:m.Perm l) (aj:l.length≤1):m=l:=by
 match l,aj with
 | [],_=>exact h.eq_nil
 | [x],_=>exact List.perm_singleton.1 h
theorem aa1 {α:Type} (le:α→α→Bool) {l:List α} (aj:l.length≤1):l.mergeSort le=l:=L8 (List.mergeSort_perm l le) aj
def Gd (P:Program) (f g:FuncId) (b1:TypeId):Prop:=
 ∀(qk b Ez:Nat) (o8:DataW Unit) (R:Value→Option (DataW Unit × List MemPlace)) (w:World),qk<w.heap.size→w.cell? ⟨qk,0,none⟩=some (.map (some b))→w.ownsMap P b1 R b Ez o8→Maps.size o8≤maxLen→Maps.size o8 * 16≤140737488355328→
  Calls P f #[.func (.func g) #[] #[.pointer (some ⟨qk,0,none⟩)]] w fun e ak=>∃(v:Value) (eL:List (List UInt8)),e=.returned v∧eL.Perm (strKeys o8)∧
   ak.ownsRow w.heap.size b1 1 v eL.length ((eL.mergeSort (fun x y=>decide (x≤y))).map encStr)∧(v=.slice none 0 0↔eL=[])∧Below w.heap.size w ak
theorem Ml (E:Env):∀l:List (List UInt8),aZ E (Ad l) (l.map encStr)
 | []=>rfl
 | x::l=>by
   simp only [Ad,List.map_cons,aZ]
   exact ⟨_,_,rfl,by simp only [Rel],Ml E l⟩
theorem abj {P:Program} {f g:FuncId} {b1:TypeId} (yu:g≠cJ) (kM:P.underlying b1=some .string) (C:Gd P f g b1) {args:List V} {h aa:ae} {v:V} (he:(Fo g).run args h=.val v aa)
 (au:Fr) (E:Env) (w:World) (xs:List Value) (ao:aZ E args xs) (s:aW au E h w):
 Calls P f xs.toArray w fun e ak=>∃ar x,e=.returned x∧E.le ar∧Rel ar v x∧aW au ar aa ak:=by
 match args,he,ao with
 | [.func sM [.ptr uN 0]],he,ao=>
   simp only [Fo] at he
   cases C4:Nat.beq sM g with
   | false=>rw [C4] at he;cases he
   | true=>
     rw [C4] at he
     simp only [cond_true] at he
     have Ug:sM=g:=Nat.eq_of_beq_eq_true C4
     subst Ug
     simp only [aZ] at ao
     obtain ⟨y,_,rfl,a1,rfl⟩:=ao
     simp only [Rel] at a1
     obtain ⟨_,a,rfl,q,_,bm,aE,rfl⟩ | ⟨VD,_⟩:=a1
     rotate_left
     · exact absurd VD yu
     obtain ⟨p,ag,rfl⟩:=aE
     have TM:a=#[.pointer (some ⟨p.bd,p.base+0,none⟩)]:=by
      rw [←Array.toList_inj,bm]
     subst TM
     unfold Md at he
     split at he
     · rename_i n cs st gw
       have kK:=s.base uN p n cs st gw ag
       have iC:=s.at ag
       rw [gw] at iC
       obtain ⟨_,p',c,el,bF,aF,_,q9,_,_,_,IG⟩:=iC
       rw [ag] at aF;cases aF
       cases a7:Nat.blt 0 n with
       | false=>rw [a7] at he;cases he
       | true=>
         rw [a7] at he
         simp only [cond_true] at he
         rw [Nat.blt_eq] at a7
         split at he
         · rename_i b mj
           have s0:0<c.size:=by have:=IG.1;omega
           have hS:=IG.2 0 c[0] a7 (by rw [kK];exact Array.getElem?_eq_getElem s0)
           rw [mj] at hS
           simp only [Rel] at hS
           obtain ⟨tQ,Jd,q1⟩:=hS
           split at he
           · rename_i es clock lo
             have I7:=s.at Jd
             rw [lo] at I7
             obtain ⟨adR,am,aM,_,UI,rj⟩:=I7
             rw [Jd] at aM;cases aM
             cases me:nr es with
             | none=>rw [me] at he;cases he
             | some aJ=>
               rw [me] at he
               simp only at he
               cases yt:(uT clock 0 es&&wU aJ) with
               | false=>rw [yt] at he;cases he
               | true=>
                 rw [yt] at he
                 simp only [cond_true] at he
                 simp only [Bool.and_eq_true] at yt
                 obtain ⟨g2,g3⟩:=yt
                 obtain ⟨b6,cz⟩:=Xg me rj
                 obtain ⟨yx,s8⟩:=Xf me
                 have CL:am.size=aJ.length:=by
                  have:=congrArg List.length b6
                  simpa using this
                 obtain ⟨bJ,cg⟩:=GJ g2
                 have s':maxLen=9223372036854775807:=by decide
                 have Jo:MapKept.Stamped am clock:=by
                  refine ⟨fun x ao=>?_,by rw [cz];exact cg,by
                   rw [b6]
                   match aJ,s8 with
                   | [],_=>exact List.nodup_nil
                   | [x],_=>exact List.nodup_cons.2 ⟨by simp,List.nodup_nil⟩⟩
                  have:x.born ∈ es.map (·.born):=by rw [←cz];exact List.mem_map_of_mem ao
                  exact (bJ _ this).2
                 have IY:∀x ∈ am.toList,∃n ∈ aJ,x.key=encStr n:=by
                  intro x ao
                  have:x.key ∈ am.toList.map (·.key):=List.mem_map_of_mem ao
                  rw [b6] at this
                  obtain ⟨n,a7,e⟩:=List.mem_map.1 this
                  exact ⟨n,a7,e.symm⟩
                 have vz:∀x ∈ am.toList,∃n,x.key=encStr n∧WideElems.rd P b1 (fun _=>some ((.nil:DataW Unit),[])) x=some (.string n,.nil):=by
                  intro x ao
                  obtain ⟨n,a7,e⟩:=IY x ao
                  refine ⟨n,e,?_⟩
                  unfold WideElems.rd
                  rw [e,show encStr n=.string ⟨⟨n⟩⟩ from rfl,WideMaps.keyOf_string_mk kM (by show n.length≤maxLen;have:=ML g3 n a7;omega)]
                  rfl
                 have IS:WideElems.Fit P b1 (fun _=>some ((.nil:DataW Unit),[])) am clock:=⟨by rw [CL,yx,s'];omega,Jo,fun x ao=>by obtain ⟨n,_,e⟩:=vz x ao;exact ⟨_,e⟩⟩
                 have fF:w.ownsMap P b1 (fun _=>some ((.nil:DataW Unit),[])) tQ.bd am.size (.map ((am.toList.map (WideElems.rg P b1 (fun _=>some ((.nil:DataW Unit),[])))).foldr DataW.insert [])):=⟨am,clock,UI,IS,Nat.le_refl _,rfl⟩
                 have IZ:(am.toList.map (WideElems.rg P b1 (fun _=>some ((.nil:DataW Unit),[])))).map (fun p=>(match p.1 with | .string b=>b | _=>[]))=aJ:=by
                  have bn:∀(l:List MapEntry) (im:List (List UInt8)),(∀x ∈ l,∃n,x.key=encStr n∧WideElems.rd P b1 (fun _=>some ((.nil:DataW Unit),[])) x=some (.string n,.nil))→l.map (·.key)=im.map encStr→(l.map (WideElems.rg P b1 (fun _=>some ((.nil:DataW Unit),[])))).map (fun p=>(match p.1 with | .string b=>b | _=>[]))=im:=by
                   intro l
                   induction l with
                   | nil=>
                     intro im _ e
                     cases im with
                     | nil=>rfl
                     | cons z im=>simp at e
                   | cons x l bh=>
                     intro im cT e
                     cases im with
                     | nil=>simp at e
                     | cons z im=>
                       simp only [List.map_cons,List.cons.injEq] at e
                       obtain ⟨n,aF,aM⟩:=cT x (List.mem_cons_self ..)
                       have VG:z=n:=by
                        have:=e.1.symm.trans aF
                        exact encStr_inj this
                       rw [List.map_cons,List.map_cons,bh im (fun y a1=>cT y (List.mem_cons_of_mem _ a1)) e.2]
                       unfold WideElems.rg
                       rw [aM,VG]
                       rfl
                  exact bn am.toList aJ vz b6
                 have pv:(strKeys (.map ((am.toList.map (WideElems.rg P b1 (fun _=>some ((.nil:DataW Unit),[])))).foldr DataW.insert []):DataW Unit)).Perm aJ:=by
                  have:=(WideShapes.sorted_perm (am.toList.map (WideElems.rg P b1 (fun _=>some ((.nil:DataW Unit),[]))))).map (fun p=>(match p.1 with | .string b=>b | _=>[]))
                  rw [IZ] at this
                  exact this
                 have b4:Maps.size (.map ((am.toList.map (WideElems.rg P b1 (fun _=>some ((.nil:DataW Unit),[])))).foldr DataW.insert []):DataW Unit)=aJ.length:=by
                  rw [Maps.size_eq,length_sorted,List.length_map,Array.length_toList,CL]
                 have aO:=(Array.getElem?_eq_some_iff.1 q9).1
                 have T0:w.cell? ⟨p.bd,0,none⟩=some (.map (some tQ.bd)):=by
                  simp only [World.cell?,q9]
                  rw [←q1]
                  exact Array.getElem?_eq_getElem s0
                 have call:=C p.bd tQ.bd am.size _ _ w aO T0 fF (by rw [b4,yx,s'];omega) (by rw [b4,yx];omega)
                 rw [show p.base+0=0 from by rw [kK]]
                 refine call.mono fun e ak q=>?_
                 obtain ⟨v0,eL,rfl,ai,ay,aK,bE⟩:=q
                 have fj:eL.Perm aJ:=ai.trans pv
                 have yI:=L8 fj s8
                 rw [yI,aa1 _ s8] at ay
                 have adv:eL.length=aJ.length:=by rw [yI]
                 rw [yI] at aK
                 clear yI fj pv IZ call IS fF vz IY Jo b6 me b4 CL yx
                 cases aJ with
                 | nil=>
                   have:([]:List (List UInt8))=[]:=rfl
                   cases he
                   rw [aK.2 this]
                   exact ⟨E,_,rfl,fun _ _ q=>q,by simp only [Rel],s.below bE⟩
                 | cons x l=>
                   simp only at he
                   cases q8:hE h (Ad (x::l)) 1 false with
                   | none=>rw [q8] at he;cases he
                   | some U=>
                     rw [q8] at he
                     simp only [aT.val.injEq] at he
                     obtain ⟨rfl,rfl⟩:=he
                     obtain ⟨bs,cV⟩:=ay
                     rcases cV with ⟨_,cV⟩ | ⟨u',cap,cur,rfl,cV,b3,k1,cF,fk,eT⟩
                     · simp at cV
                     · unfold hE at q8
                       obtain ⟨aq,q8⟩:=dG q8
                       simp only [Bool.and_eq_true,Nat.ble_eq] at aq
                       simp only [Option.some.injEq] at q8
                       subst q8
                       have db:E.put (aG h.next) ⟨u',0,cap⟩ (aG h.next)=some ⟨u',0,cap⟩:=by unfold Env.put;rw [if_pos rfl]
                       have hle:E.le (E.put (aG h.next) ⟨u',0,cap⟩):=Env.jj (s.fresh h.next (Nat.le_refl _))
                       refine ⟨_,_,rfl,hle,?_,s.add (p:=⟨u',0,cap⟩) bE.size (fun j bG _=>bE.block j bG) (Nat.le_trans s.frame.size cV) (fun bz dK fQ mq dx=>?_) bE.os bE.tape bE.output (fun _ _ _ e=>by injection e with _ _ cm;omega) ?_⟩
                       · simp only [Rel]
                         exact ⟨_,db,by simp only [Nat.zero_add];omega,by simp only [Nat.add_zero,Nat.sub_zero]⟩
                       · have:=ZU s fQ mq
                         simp only at dx
                         omega
                       · have gT:=x' (aZ.mono hle _ _ (Ml E (x::l))) aq.1 (cur.toList.drop ((x::l).length * 1)).toArray
                         have T4:((x::l).map encStr).toArray++(cur.toList.drop ((x::l).length * 1)).toArray=cur:=by
                          rw [←eT,←Array.toList_inj]
                          simp
                         rw [T4] at gT
                         exact ⟨aq.1,⟨u',0,cap⟩,cur,b1,(0,0),db,Nat.le_trans s.frame.size cV,b3,.inr (Nat.le_refl _),fun _=>rfl,fun _=>by simp only;omega,gT⟩
           · cases he
         · cases he
     · cases he
end Go.Proofs.YtkehcalakofigaaGreatDoor.aY
