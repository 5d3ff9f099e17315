/- The abstract machine and its walks (a verified interpreter of the model's code: plain definitions and lemmas, no condition). Printed by a program from longer texts: names made short. -/
import Derived.Test.YtkehcalakofigaaGreatDoorM2
import Derived.Scope
import Derived.RangeFuncRecord
import Derived.Carry
import Derived.OpenShut
import Derived.ChangeSame
import Derived.Lib.Bytealg
import Derived.Lib.IndexMore
import Derived.Handed
import Derived.HandedShaped
import Derived.Shelf.SlIter.Sorted
import Derived.Shelf.SlIter.Nil
import Derived.StringKeys
import Derived.WideShapes
set_option linter.unusedSectionVars false
set_option linter.unusedSimpArgs false
set_option linter.unusedVariables false
namespace Go.Proofs.YtkehcalakofigaaGreatDoor.a1
variable [Lay]
open Go Go.RowKit
theorem xV {α:Type} (p q:α→Bool):∀(l:List α),(∀x ∈ l,q x=true→p x=true)→(∃x ∈ l,p x=true∧q x=false)→l.countP q<l.countP p
 | [],_,h=>by obtain ⟨x,ao,_⟩:=h;simp at ao
 | a::l,U,ad=>by
   have hle:l.countP q≤l.countP p:=List.countP_mono_left fun x ao=>U x (by simp [ao])
   obtain ⟨x,ao,ah,aF⟩:=ad
   simp only [List.mem_cons] at ao
   rcases ao with rfl | ao
   · rw [List.countP_cons,List.countP_cons,ah,aF]
     simp
     omega
   · have bh:=xV p q l (fun y aZ=>U y (by simp [aZ])) ⟨x,ao,ah,aF⟩
     have bm:=U a (by simp)
     rw [List.countP_cons,List.countP_cons]
     cases Vz:q a with
     | true=>rw [bm Vz];simp;omega
     | false=>simp;omega
theorem sD (e:Edge):Region.binds .any e=qI e:=by
 unfold Region.binds qI
 cases e.ground<;>rfl
section
variable {P:Program}
theorem p8 {order:List Nat}:∀{ba:List Nat} {k j p:Nat},wG order k ba=true→ba[j]? =some p→order[p]? =some (k+j)
 | [],_,j,p,_,h=>by simp at h
 | q::ba,k,j,p,ah,h=>by
   simp only [wG,Bool.and_eq_true] at ah
   cases j with
   | zero=>
     simp only [List.getElem?_cons_zero,Option.some.injEq] at h
     subst h
     have U:=ah.1
     cases aF:order[q]? with
     | none=>rw [aF] at U;cases U
     | some i=>rw [aF] at U;rw [Nat.beq_eq] at U;rw [U];rfl
   | succ j=>
     have:=p8 ah.2 (show ba[j]? =some p by simpa using h)
     rw [this]
     congr 1
     omega
theorem kv {ops:Array Oper}:∀{order:List Nat} {p i:Nat} {o:Oper},order[p]? =some i→ops[i]? =some o→(fF ops order)[p]? =some o
 | [],p,i,o,h,_=>by simp at h
 | x::xs,p,i,o,h,aP=>by
   cases p with
   | zero=>
     simp only [List.getElem?_cons_zero,Option.some.injEq] at h
     subst h
     simp [fF,aP]
   | succ p=>simpa [fF] using kv (show xs[p]? =some i by simpa using h) aP
theorem mD {ops:Array Oper}:∀{order:List Nat},(fF ops order).length=order.length
 | []=>rfl
 | x::xs=>by simp [fF,mD (order:=xs)]
structure Cert (P:Program) (an:Nat) (ops:Array Oper) (calls:Nat→c9) (es:List dS) (bp:bo) (bb:ae) (cv:bo) (ax:ae) (dD:List Nat) (order az:List Nat) (N M:Nat) (lit:Bool):Prop where
 len:es.length=N
 wk:N≤ops.size
 KZ:N≤M
 gy:∀k,k<ops.size→posOf az k<ops.size∧order[posOf az k]? =some k
 iU:∀p,p<ops.size→∃i,i<ops.size∧posOf az i=p
 bb:bW es ax 0=bb
 bp:dw es cv 0=bp
 step:∀i o,ops[i]? =some o→posOf az i<N→∃e,es[posOf az i]? =some e∧(b8 P an ops o).run (calls i) e.r e.h=.val e.v (bW es ax (posOf az i+1))∧dw es cv (posOf az i+1)=(eA o.dst).run e.r e.v
 ke:∀i o,ops[i]? =some o→∃ch,(dM [] ops.toList)[i]? =some ch∧jY i o=true∧(posOf az i<M→
  ∀k ok,ops[k]? =some ok→posOf az k<M→∃mk,(dM [] ops.toList)[k]? =some mk∧lM i ch (bP ops o) o.dst k mk ok (Nat.blt (posOf az k) (posOf az i))=true∧(dU P o.op=true→dr P ok=true→posOf az k<posOf az i→eJ ch k=true∨(lit=true∧iL o=true∧iL ok=true)))
 ends:N ∈ dD
 mem:∀j o,ops[j]? =some o→dr P o=true→posOf az j ∈ dD
 MF:∀s ∈ dD,(s=ops.size∨(s=N∧M=N))∨∃k o,ops[k]? =some o∧dr P o=true∧s=posOf az k
 ask:∀j o,ops[j]? =some o→looks o.op=true→dU P o.op=false→posOf az j<N→∃e,es[posOf az j]? =some e∧∀s ∈ dD,
  oN P (dM [] ops.toList) ops.toList az j (((dM [] ops.toList)[j]?).getD 0) s=true→∃c aa,(ff P c∧fm P c)∧(b8 P an ops o).run c e.r (bW es ax s)=.val e.v aa
 tail:M<ops.size→M=N∧∀k ok mk,ops[k]? =some ok→N≤posOf az k→(dM [] ops.toList)[k]? =some mk→∀j,j<ops.size→posOf az j<N→eJ mk j=true
 stop:N<ops.size→ops.size≤M→∃i0 gR m0,ops[i0]? =some gR∧posOf az i0=N∧js gR.op=true∧(dM [] ops.toList)[i0]? =some m0∧
  (∀k ok mk,ops[k]? =some ok→N<posOf az k→(dM [] ops.toList)[k]? =some mk→eJ mk i0=true)∧
  (∀k ok,ops[k]? =some ok→fb ok=true→posOf az k<N→eJ m0 k=true)∧∃v aa,(b8 P an ops gR).run (calls i0) cv ax=.cb v aa
theorem KR {o:Oper} (h:js o.op=true):dU P o.op=true∧fb o=false:=by
 obtain ⟨dst,op,type,pos,after,guard⟩:=o
 cases op<;>simp only [js] at h<;>try (cases h;done)
 · rename_i c
   obtain ⟨callee,args,types⟩:=c
   cases callee<;>simp only at h<;>try (cases h;done)
   exact ⟨rfl,rfl⟩
 · exact ⟨rfl,rfl⟩
variable {an:Nat} {ops:Array Oper} {call:c9} {calls:Nat→c9} {es:List dS} {bp:bo} {bb:ae} {cv:bo} {ax:ae} {dD:List Nat} {order az:List Nat} {N M:Nat} {lit:Bool}
theorem Cert.rT (C:Cert P an ops calls es bp bb cv ax dD order az N M lit) {k bl:Nat} (U:k<ops.size) (ad:bl<ops.size) (he:posOf az k=posOf az bl):k=bl:=by
 have a:=(C.gy k U).2
 have b:=(C.gy bl ad).2
 rw [he,b] at a
 cases a
 rfl
theorem HS {ops:Array Oper} {az:List Nat} (ax:sI P ops az=true):∀i o,ops[i]? =some o→∃ch,(dM [] ops.toList)[i]? =some ch∧jY i o=true∧
 ∀k ok,ops[k]? =some ok→∃mk,(dM [] ops.toList)[k]? =some mk∧lM i ch (bP ops o) o.dst k mk ok (Nat.blt (posOf az k) (posOf az i))=true∧(dU P o.op=true→dr P ok=true→posOf az k<posOf az i→eJ ch k=true):=by
 intro i o aB
 unfold sI at ax
 obtain ⟨ch,U,ad⟩:=mN ax i o (by simpa using aB)
 simp only [Nat.zero_add,Bool.and_eq_true] at ad
 refine ⟨ch,U,ad.1,fun k ok aA=>?_⟩
 obtain ⟨mk,b_,cA⟩:=mN ad.2 k ok (by simpa using aA)
 simp only [Nat.zero_add,Bool.and_eq_true] at cA
 refine ⟨mk,b_,cA.1,fun aE aM aN=>?_⟩
 have fv:=cA.2
 rw [aE,aM,Bool.true_and,show Nat.blt (posOf az k) (posOf az i)=true from by rw [Nat.blt_eq];exact aN] at fv
 exact fv
theorem Cert.Fh (C:Cert P an ops calls es bp bb cv ax dD order az N M lit):∀p,p≤N→∀t,t≤top→
 (∃k o e,posOf az k<p∧ops[k]? =some o∧o.dst=some t∧es[posOf az k]? =some e∧T.get .bad (aH t) (dw es cv p)=e.v)∨
 ((∀k o,posOf az k<p→ops[k]? =some o→o.dst≠some t)∧T.get .bad (aH t) (dw es cv p)=T.get .bad (aH t) bp)
 | 0,_,t,aC=>.inr ⟨fun k o h=>by omega,by rw [C.bp]⟩
 | p+1,aB,t,aC=>by
   obtain ⟨i,aN,hG⟩:=C.iU p (by have:=C.wk;omega)
   have b3:ops[i]? =some ops[i]:=Array.getElem?_eq_getElem aN
   obtain ⟨e,U,ad,aI⟩:=C.step i ops[i] b3 (by omega)
   rw [hG] at U ad aI
   have DN:dw es cv p=e.r:=by simp [dw,U]
   have di:=ID (r:=e.r) (v:=e.v) (h5 ad).1 aC
   rw [aI,di]
   by_cases aV:ops[i].dst=some t
   · rw [if_pos aV]
     exact .inl ⟨i,_,e,by omega,b3,aV,by rw [hG];exact U,rfl⟩
   · rw [if_neg aV,←DN]
     rcases Cert.Fh C p (by omega) t aC with ⟨k,o,cQ,aj,ay,aK,bE,dh⟩ | ⟨aj,ay⟩
     · exact .inl ⟨k,o,cQ,by omega,ay,aK,bE,dh⟩
     · refine .inr ⟨fun k o aA aP=>?_,ay⟩
       by_cases fa:k=i
       · subst fa;rw [b3] at aP;cases aP;exact aV
       · refine aj k o ?_ aP
         have me:=(Array.getElem?_eq_some_iff.1 aP).1
         have:posOf az k≠p:=fun e=>fa (C.rT me aN (by rw [e,hG]))
         omega
theorem Cert.Ck (C:Cert P an ops calls es bp bb cv ax dD order az N M lit):∀p,p≤N→T.get .bad dT (dw es cv p)=T.get .bad dT bp
 | 0,_=>by rw [C.bp]
 | p+1,aB=>by
   obtain ⟨i,aN,hG⟩:=C.iU p (by have:=C.wk;omega)
   have b3:ops[i]? =some ops[i]:=Array.getElem?_eq_getElem aN
   obtain ⟨e,U,ad,aI⟩:=C.step i ops[i] b3 (by omega)
   rw [hG] at U ad aI
   have DN:dw es cv p=e.r:=by simp [dw,U]
   have aV:=(h5 ad).1
   rw [aI,←Cert.Ck C p (by omega),DN]
   cases UG:ops[i].dst with
   | none=>rfl
   | some d=>
     rw [UG] at aV
     simp only [ei,Bool.and_eq_true,Nat.ble_eq] at aV
     simp only [eA]
     rw [T.gn,if_neg (rQ aV.2)]
def nameAt (es:List dS) (ax:ae) (az:List Nat) (k:Nat):aO:=aH (bW es ax (posOf az k)).next
noncomputable def uV (es:List dS) (ax:ae) (az:List Nat) (k:Nat):bV:=(bW es ax (posOf az k+1)).get (nameAt es ax az k)
def Made (es:List dS) (ax:ae) (az:List Nat) (k:Nat):Prop:=(bW es ax (posOf az k+1)).next≠(bW es ax (posOf az k)).next
def hQ (ops:Array Oper) (es:List dS) (ax:ae) (az:List Nat) (listed:Array Bool) (s k:Nat):Prop:=
 ∃o,ops[k]? =some o∧(fb o=true∧Made es ax az k)∧¬listed.getD k false=true∧posOf az k<s
structure Holds (aw F:Fr) (es:List dS) (ax:ae) (az:List Nat) (D:Nat→Prop):Prop where
 w:F.w=aw.w
 b0:∀b,(∀k,D k→nameAt es ax az k≠b)→F.ew b=aw.ew b
 new:∀k,D k→F.ew (nameAt es ax az k)=some (uV es ax az k)∧aw.ew (nameAt es ax az k)=none
 inj:∀k bl,D k→D bl→nameAt es ax az k=nameAt es ax az bl→k=bl
theorem Holds.congr {aw F:Fr} {D F8:Nat→Prop} (H:Holds aw F es ax az D) (h:∀k,F8 k↔D k):Holds aw F es ax az F8:=
 ⟨H.w,fun b af=>H.b0 b fun k aA=>af k ((h k).2 aA),fun k aA=>H.new k ((h k).1 aA),fun k bl aA f_=>H.inj k bl ((h k).1 aA) ((h bl).1 f_)⟩
theorem Holds.none {aw F:Fr} {D:Nat→Prop} (H:Holds aw F es ax az D) (h:∀k,¬D k):F=aw:=by
 have:F.ew=aw.ew:=funext fun b=>H.b0 b fun k aA=>absurd aA (h k)
 cases F;cases aw
 have hw:=H.w
 simp only at this hw
 rw [this,hw]
theorem Cert.advance (C:Cert P an ops calls es bp bb cv ax dD order az N M lit) {aw:Fr} {listed:Array Bool} {E:Env} {w:World}:∀(d q:Nat),q+d=N→(∀k o,ops[k]? =some o→fb o=true→q≤posOf az k→¬listed.getD k false=true)→
 ∀F,Holds aw F es ax az (hQ ops es ax az listed q)→aW F E (bW es ax q) w→
 ∃s dn,s ∈ dD∧q≤s∧s≤N∧(∀k o,ops[k]? =some o→dr P o=true→q≤posOf az k→s≤posOf az k)∧Holds aw dn es ax az (hQ ops es ax az listed s)∧aW dn E (bW es ax s) w
 | 0,q,aF,_,F,H,S=>by
   have:q=N:=by omega
   subst this
   exact ⟨q,F,C.ends,Nat.le_refl _,Nat.le_refl _,fun k o _ _ h=>h,H,S⟩
 | d+1,q,aF,pI,F,H,S=>by
   obtain ⟨i,aN,hG⟩:=C.iU q (by have:=C.wk;omega)
   have b3:ops[i]? =some ops[i]:=Array.getElem?_eq_getElem aN
   cases jI:dr P ops[i] with
   | true=>exact ⟨q,F,by rw [←hG];exact C.mem i _ b3 jI,Nat.le_refl _,by omega,fun k o _ _ h=>h,H,S⟩
   | false=>
     obtain ⟨e,U,ad,aI⟩:=C.step i ops[i] b3 (by omega)
     rw [hG] at U ad
     have pG:bW es ax q=e.h:=by simp [bW,U]
     have only:∀k o,ops[k]? =some o→posOf az k=q→k=i:=fun k o aA ah=>C.rT (Array.getElem?_eq_some_iff.1 aA).1 aN (by rw [ah,hG])
     have fin:∀dn,Holds aw dn es ax az (hQ ops es ax az listed (q+1))→aW dn E (bW es ax (q+1)) w→
      ∃s dn,s ∈ dD∧q≤s∧s≤N∧(∀k o,ops[k]? =some o→dr P o=true→q≤posOf az k→s≤posOf az k)∧Holds aw dn es ax az (hQ ops es ax az listed s)∧aW dn E (bW es ax s) w:=by
      intro dn iZ NH
      obtain ⟨s,Av,g1,g2,g3,g4,g5,g6⟩:=Cert.advance C d (q+1) (by omega) (fun k o U ad aI=>pI k o U ad (by omega)) dn iZ NH
      refine ⟨s,Av,g1,by omega,g3,fun k o aA ar ah=>g4 k o aA ar ?_,g5,g6⟩
      by_cases yM:posOf az k=q
      · have:=only k o aA yM
        subst this
        rw [b3] at aA;cases aA
        rw [jI] at ar;cases ar
      · omega
     have pass:bW es ax (q+1)=e.h→(fb ops[i]=true→¬Made es ax az i)→∃s dn,s ∈ dD∧q≤s∧s≤N∧(∀k o,ops[k]? =some o→dr P o=true→q≤posOf az k→s≤posOf az k)∧Holds aw dn es ax az (hQ ops es ax az listed s)∧aW dn E (bW es ax s) w:=by
      intro tn kl
      rw [←pG] at tn
      refine fin F (H.congr fun k=>⟨?_,?_⟩) (by rw [tn];exact S)
      · rintro ⟨o,aj,ay,aK,bE⟩
        refine ⟨o,aj,ay,aK,?_⟩
        have:posOf az k≠q:=fun e=>by
         have:=only k o aj e
         subst this
         rw [b3] at aj;cases aj
         exact kl ay.1 ay.2
        omega
      · rintro ⟨o,aj,ay,aK,bE⟩
        exact ⟨o,aj,ay,aK,by omega⟩
     cases bm:fb ops[i] with
     | true=>
      rcases HP bm ad with ⟨cD,b_,cA⟩ | ⟨b_,_⟩
      ·
       have aQ:=S.hold cD
       have a7:nameAt es ax az i=aH (bW es ax q).next:=by unfold nameAt;rw [hG]
       have af:uV es ax az i=cD:=by
        unfold uV
        rw [a7,hG,b_,pG,ae.gE,if_pos rfl]
       rw [pG,←b_] at aQ
       have Vg:Made es ax az i:=by
        unfold Made
        rw [hG,b_,pG]
        exact Nat.succ_ne_self _
       have nj:¬listed.getD i false=true:=pI i _ b3 bm (by omega)
       have B_:∀k,hQ ops es ax az listed (q+1) k→k=i∨hQ ops es ax az listed q k:=by
        rintro k ⟨o,aj,ay,aK,bE⟩
        by_cases yM:posOf az k=q
        · exact .inl (only k o aj yM)
        · exact .inr ⟨o,aj,ay,aK,by omega⟩
       have fresh:∀b tC,F.ew b=some tC→b≠nameAt es ax az i:=by
        intro b tC nd heq
        obtain ⟨_,_,j,vV,rG⟩:=S.lN b tC nd
        rw [heq,a7] at rG
        rw [pG] at vV rG
        have:=gT rG
        omega
       have J1:∀b,b≠nameAt es ax az i→(F.hold (aH e.h.next) cD).ew b=F.ew b:=by
        intro b I0
        rw [a7,pG] at I0
        simp only [Fr.hold,if_neg I0]
       have Ou:(F.hold (aH e.h.next) cD).ew (nameAt es ax az i)=some cD:=by
        rw [a7,pG]
        simp only [Fr.hold,if_true]
       have ne:∀k,hQ ops es ax az listed q k→nameAt es ax az k≠nameAt es ax az i:=fun k aA=>fresh _ _ (H.new k aA).1
       refine fin (F.hold (aH e.h.next) cD) ⟨H.w,fun b nd=>?_,fun k aA=>?_,fun k bl aA f_ he=>?_⟩ aQ
       · have q1:b≠nameAt es ax az i:=fun e=>nd i ⟨_,b3,⟨bm,Vg⟩,nj,by omega⟩ e.symm
         rw [J1 b q1]
         exact H.b0 b fun k aA=>nd k (by obtain ⟨o,aj,ay,aK,bE⟩:=aA;exact ⟨o,aj,ay,aK,by omega⟩)
       · rcases B_ k aA with rfl | aA
         · refine ⟨by rw [Ou,af],?_⟩
           cases ah:aw.ew (nameAt es ax az k) with
           | none=>rfl
           | some tC=>
             exfalso
             have:=H.b0 (nameAt es ax az k) fun bl f_=>ne bl f_
             rw [ah] at this
             exact fresh _ _ this rfl
         · rw [J1 _ (ne k aA)]
           exact H.new k aA
       · rcases B_ k aA with rfl | aA<;>rcases B_ bl f_ with rfl | f_
         · rfl
         · exact absurd he.symm (ne bl f_)
         · exact absurd he (ne k aA)
         · exact H.inj k bl aA f_ he
      · refine pass b_ fun _ hm=>hm ?_
        rw [hG,b_,pG]
     | false=>
       have c8:dU P ops[i].op=false:=by
        unfold dr at jI
        rw [bm] at jI
        simpa using jI
       exact pass (qN c8 ad).1 fun h=>by rw [bm] at h;cases h
structure mO (P:Program) (aw:Fr) (an:Nat) (ops:Array Oper) (es:List dS) (bp:bo) (ax:ae) (dD az:List Nat) (gj:Env) (N:Nat) (D:List Deferred) (listed:Array Bool) (a:Act) (w:World):Prop where
 oK:listed.size=ops.size
 size:a.tmps.size=an
 defers:a.defers=D
 po:∀k,listed.getD k false=true→posOf az k<N
 down:mQ ops fun k=>listed.getD k false=true
 main:∃E s F,gj.le E∧s ∈ dD∧s≤N∧(∀k o,ops[k]? =some o→dr P o=true→(listed.getD k false=true↔posOf az k<s))∧
  (∀k o,ops[k]? =some o→fb o=true→listed.getD k false=true→posOf az k<s)∧Holds aw F es ax az (hQ ops es ax az listed s)∧aW F E (bW es ax s) w∧
  ∀t,t≤top→(∃k o e,listed.getD k false=true∧ops[k]? =some o∧o.dst=some t∧es[posOf az k]? =some e∧Rel E e.v (a.tmps.getD t undef))∨
   ((∀k o,listed.getD k false=true→ops[k]? =some o→o.dst≠some t)∧Rel E (T.get .bad (aH t) bp) (a.tmps.getD t undef))
theorem pw {l:Array Bool} {i:Nat}:l.getD i false=true↔l[i]? =some true:=by
 rw [Array.getD_eq_getD_getElem?]
 cases l[i]? with
 | none=>simp
 | some b=>cases b<;>simp
theorem eC {l:Array Bool} {i k:Nat} (aB:i<l.size):(l.setIfInBounds i true).getD k false=true↔(k=i∨l.getD k false=true):=by
 rw [pw,pw,Array.getElem?_setIfInBounds]
 by_cases h:i=k
 · subst h;simp [aB]
 · have:¬k=i:=fun e=>h e.symm
   simp [h,this]
theorem x5 {r:bo} {t:Nat} (aC:t≤top):∀{l:List Oper},T.get .bad (aH t) (lq r l)=.bad∨(T.get .bad (aH t) (lq r l)=T.get .bad (aH t) r∧∀o ∈ l,o.dst≠some t)
 | []=>.inr ⟨rfl,fun o aP=>by simp at aP⟩
 | o::os=>by
   simp only [lq]
   cases aV:o.dst with
   | none=>
     simp only
     rcases x5 (r:=r) aC (l:=os) with h | ⟨U,ad⟩
     · exact .inl h
     · exact .inr ⟨U,fun bU fO=>by
        rcases List.mem_cons.1 fO with rfl | fO
        · rw [aV];simp
        · exact ad bU fO⟩
   | some d=>
     simp only
     cases af:Nat.ble d top with
     | true=>
       simp only [cond_true]
       rw [T.gn]
       by_cases q5:d=t
       · subst q5;rw [if_pos rfl];exact .inl rfl
       · rw [if_neg (fun e=>q5 (gT e))]
         rcases x5 (r:=r) aC (l:=os) with h | ⟨U,ad⟩
         · exact .inl h
         · exact .inr ⟨U,fun bU fO=>by
            rcases List.mem_cons.1 fO with rfl | fO
            · rw [aV];simpa using q5
            · exact ad bU fO⟩
     | false=>
       simp only [cond_false]
       have q5:d≠t:=fun e=>by subst e;rw [←Nat.ble_eq] at aC;rw [aC] at af;cases af
       rcases x5 (r:=r) aC (l:=os) with h | ⟨U,ad⟩
       · exact .inl h
       · exact .inr ⟨U,fun bU fO=>by
          rcases List.mem_cons.1 fO with rfl | fO
          · rw [aV];simpa using q5
          · exact ad bU fO⟩
theorem x4 {r:bo}:∀{l:List Oper},T.get .bad dT (lq r l)=T.get .bad dT r
 | []=>rfl
 | o::os=>by
   simp only [lq]
   cases aV:o.dst with
   | none=>exact x4
   | some d=>
     simp only
     cases af:Nat.ble d top with
     | true=>
       simp only [cond_true]
       rw [T.gn,if_neg (rQ (Nat.le_of_ble_eq_true af))]
       exact x4
     | false=>exact x4
theorem HV {rd:Option Nat} {D:List Deferred} {aw:Fr} (bw:dJ P) (cm:∀i,ff P (calls i)) (cZ:∀i,fm P (calls i)) (C:Cert P an ops calls es bp bb cv ax dD order az N M lit) {gj:Env} {listed:Array Bool} {a:Act} {w:World} (I:mO P aw an ops es bp ax dD az gj N D listed a w)
 {i:Nat} (aB:i ∈ Region.ready .any ops listed) (U1:posOf az i<M) (re:lit=true→∀o k ok,ops[i]? =some o→iL o=true→ops[k]? =some ok→iL ok=true→posOf az k<posOf az i→listed.getD k false=true) {Q:Exit→Act→World→Prop} {K:Act→World→Prop} (dd:∀bf al,mO P aw an ops es bp ax dD az gj N D (listed.setIfInBounds i true) bf al→K bf al)
 (cS:∀av bf al x v aa,gj.le av→N<ops.size→ops.size≤M→(∃i0 gR,ops[i0]? =some gR∧posOf az i0=N∧(b8 P an ops gR).run (calls i0) cv ax=.cb v aa)→RegRel0 av an (lq bp ops.toList) bf→bf.defers=D→Rel av v x→aW aw av aa al→Q (.panic (mF x)) bf al):wpOpIn (bS rd) 0 P ops Q i K a w:=by
 rw [mem_ready] at aB
 obtain ⟨E,s,F,jG,aQ,yP,jL,cU,hV,nm,rr⟩:=I.main
 obtain ⟨pI,o,b3,q6⟩:=aB
 have eM:i<ops.size:=(Array.getElem?_eq_some_iff.1 b3).1
 have pJ:¬listed.getD i false=true:=by
  rw [pw]
  intro h
  rw [Array.getD_eq_getD_getElem?,h] at pI
  simp at pI
 have Jo:=we I.down ops.toList [] (fun j=>by simp) (fun k m j aA=>by simp at aA)
 have s3:mQ ops fun k=>listed.getD k false=true∨k=i:=by
  intro k ok e aA bg he af
  rcases aA with aA | rfl
  · exact .inl (I.down k ok e aA bg he af)
  · rw [b3] at bg;cases bg
    exact .inl (q6 e (Array.mem_toList_iff.1 he) (by rw [sD];exact af))
 have Vf:=we s3 ops.toList [] (fun j=>by simp) (fun k m j aA=>by simp at aA)
 obtain ⟨ch,jM,gG,yL⟩:=C.ke i o b3
 have yL:=yL U1
 have CN:=C.KZ
 have vi:∀k,k≠i→eJ ch k=true→listed.getD k false=true:=by
  intro k aA af
  rcases Vf i ch k jM af (.inr rfl) with h | h
  · exact h
  · exact absurd h aA
 have ib:=(C.gy i eM).1
 have Vv:posOf az i≤N:=by
  rcases Nat.lt_or_ge N (posOf az i) with UX | hle
  · exfalso
    have yo:ops.size≤M:=by
     rcases Nat.lt_or_ge M ops.size with h | h
     · have:=(C.tail h).1;omega
     · exact h
    obtain ⟨i0,gR,m0,cd,z2,z3,z4,z5,_⟩:=C.stop (by omega) yo
    have af:=z5 i o ch b3 UX jM
    have U:=vi i0 (fun e=>by subst e;omega) af
    have:=I.po i0 U
    omega
  · exact hle
 have uniq:∀(k bl:Nat) (ok ih:Oper) (t:Nat),ops[k]? =some ok→ops[bl]? =some ih→posOf az k<M→posOf az bl<M→ok.dst=some t→ih.dst=some t→k=bl:=by
  intro k bl ok ih t U ad bL ca aI br
  obtain ⟨mk,_,_,ah⟩:=C.ke k ok U
  obtain ⟨mk',_,gr,_⟩:=ah bL bl ih ad ca
  unfold lM at gr
  rw [fK] at gr
  by_cases hW:k=bl
  · exact hW
  · rw [if_neg hW,br,aI] at gr
    simp at gr
 have LW:ir (bP ops o)=true→∀t ∈ bP ops o,Rel E (T.get .bad (aH t) (dw es cv (posOf az i))) (a.tmps.getD t undef):=by
  intro mu t aC
  have ts:t≤top:=by
   have:=List.all_eq_true.1 mu t aC
   exact Nat.le_of_ble_eq_true this
  have Lk:∀(k:Nat) (ok:Oper),k≠i→posOf az k<M→ops[k]? =some ok→ok.dst=some t→∃mk,(dM [] ops.toList)[k]? =some mk∧(posOf az k<posOf az i→eJ ch k=true)∧(¬posOf az k<posOf az i→eJ mk i=true):=by
   intro k ok aA Di bg aV
   obtain ⟨mk,aj,ay,_⟩:=yL k ok bg Di
   refine ⟨mk,aj,?_⟩
   unfold lM at ay
   rw [fK,if_neg (fun e=>aA e.symm),aV] at ay
   simp only [Bool.and_eq_true] at ay
   have aK:=ay.1
   rw [show (bP ops o).contains t=true from by simpa using aC] at aK
   simp only [cond_true] at aK
   refine ⟨fun aN=>?_,fun hE=>?_⟩
   · rw [show Nat.blt (posOf az k) (posOf az i)=true from by rw [Nat.blt_eq];exact aN] at aK
     exact aK
   · rw [show Nat.blt (posOf az k) (posOf az i)=false from by rw [←Bool.not_eq_true,Nat.blt_eq];exact hE] at aK
     exact aK
  rcases C.Fh (posOf az i) Vv t ts with ⟨k,ok,x0,aj,ay,aK,bE,dh⟩ | ⟨aj,ay⟩
  · obtain ⟨mk,_,cT,_⟩:=Lk k ok (fun e=>by subst e;omega) (by omega) ay aK
    have Vb:=vi k (fun e=>by subst e;omega) (cT aj)
    rcases rr t ts with ⟨bl,ih,Cn,b1,b',d',hL,mE⟩ | ⟨b1,_⟩
    · have:=uniq k bl ok ih t ay b' (by omega) (by have:=I.po bl b1;omega) aK d'
      subst this
      rw [bE] at hL;cases hL
      rw [dh];exact mE
    · exact absurd aK (b1 k ok Vb ay)
  · rcases rr t ts with ⟨bl,ih,Cn,b1,b',d',hL,mE⟩ | ⟨_,b'⟩
    · have fa:bl≠i:=fun e=>pJ (e ▸ b1)
      obtain ⟨mk,m1,_,cG⟩:=Lk bl ih fa (by have:=I.po bl b1;omega) b' d'
      by_cases aN:posOf az bl<posOf az i
      · exact absurd d' (aj bl ih aN b')
      · exact absurd (Jo bl mk i m1 (cG aN) b1) pJ
    · rw [ay];exact b'
 have level:dU P o.op=true→s≤posOf az i→s=posOf az i∧fb o=false:=by
  intro jd hle
  rcases C.MF s aQ with (h | ⟨h,yn⟩) | ⟨k,ok,b_,cA,fv⟩
  · omega
  · omega
  · have Ju:¬listed.getD k false=true:=fun h=>by have:=(jL k ok b_ cA).1 h;omega
    have me:=(Array.getElem?_eq_some_iff.1 b_).1
    by_cases fa:k=i
    · subst fa
      rw [b3] at b_;cases b_
      refine ⟨fv,?_⟩
      unfold dr at cA
      simpa [jd] using cA
    · have aN:posOf az k<posOf az i:=by
       have:posOf az k≠posOf az i:=fun e=>fa (C.rT me eM e)
       omega
      obtain ⟨mk,_,_,aK⟩:=yL k ok b_ (by omega)
      rcases aK jd cA aN with h | ⟨g1,g2,g3⟩
      · exact absurd (vi k fa h) Ju
      · exact absurd (re g1 o k ok b3 g2 b_ g3 aN) Ju
 rcases Nat.lt_or_ge (posOf az i) N with Du | adO
 case inr=>
  have ia:posOf az i=N:=by omega
  have yo:ops.size≤M:=by
   rcases Nat.lt_or_ge M ops.size with h | h
   · have:=(C.tail h).1;omega
   · exact h
  obtain ⟨i0,gR,m0,cd,z2,z3,z4,z5,adh,v,aa,F2⟩:=C.stop (by omega) yo
  have U3:i0=i:=C.rT (Array.getElem?_eq_some_iff.1 cd).1 eM (by rw [z2,ia])
  subst U3
  rw [b3] at cd;cases cd
  rw [jM] at z4;cases z4
  obtain ⟨jd,Vl⟩:=KR z3
  have s8:dr P o=true:=by unfold dr;rw [jd,Vl];rfl
  have DV:s≤posOf az i0:=by
   rcases Nat.lt_or_ge (posOf az i0) s with h | h
   · exact absurd ((jL i0 o b3 s8).2 h) pJ
   · exact h
  have tp:=(level jd DV).1
  have pz:F=aw:=hV.none fun k aA=>by
   obtain ⟨ok,aj,ay,aK,bE⟩:=aA
   have fa:k≠i0:=fun e=>by subst e;omega
   exact aK (vi k fa (adh k ok aj ay.1 (by omega)))
  subst pz
  have cV:es[N]? =none:=List.getElem?_eq_none (by rw [C.len];exact Nat.le_refl _)
  have ic:=LW (HN F2).2
  rw [ia] at ic
  simp only [dw,cV] at ic
  rw [tp,ia] at nm
  simp only [bW,cV] at nm
  refine SG bw (cm i0) (cZ i0) b3 F2 z3 I.size ic nm fun av x al aj ay aK=>cS av a al x v aa (jG.trans aj) (by omega) yo ⟨i0,o,b3,ia,F2⟩ ⟨I.size,fun t aC=>?_⟩ I.defers ay aK
  rcases x5 (r:=bp) aC (l:=ops.toList) with h | ⟨U,ad⟩
  · rw [h];simp [Rel]
  · rw [U]
    rcases rr t aC with ⟨k,ok,x0,b1,b',d',hL,mE⟩ | ⟨b1,b'⟩
    · exact absurd d' (ad ok (by rw [←Array.getElem?_toList] at b';exact List.mem_of_getElem? b'))
    · exact Rel.mono aj _ _ b'
 obtain ⟨e,lx,cu,adX⟩:=C.step i o b3 Du
 have fB:=h5 cu
 have et:dw es cv (posOf az i)=e.r:=by simp [dw,lx]
 have hF:bW es ax (posOf az i)=e.h:=by simp [bW,lx]
 have reads:=LW fB.2
 rw [et] at reads
 have eV:i<listed.size:=by rw [I.oK];exact eM
 have after:∀(fG:Nat) (dn:Fr) (av:Env) (x:Value) (al:World),fG ∈ dD→fG≤N→(∀k ok,ops[k]? =some ok→dr P ok=true→((k=i∨listed.getD k false=true)↔posOf az k<fG))→
  (∀k ok,ops[k]? =some ok→fb ok=true→(k=i∨listed.getD k false=true)→posOf az k<fG)→
  Holds aw dn es ax az (hQ ops es ax az (listed.setIfInBounds i true) fG)→E.le av→Rel av e.v x→aW dn av (bW es ax fG) al→
  mO P aw an ops es bp ax dD az gj N D (listed.setIfInBounds i true) (a.put o.dst x) al:=by
  intro fG dn av x al hp VP eu Uo UY hle ao VN
  refine ⟨by simp [I.oK],by cases h:o.dst<;>simp [Act.put,I.size],by cases h:o.dst<;>simp [Act.put,I.defers],fun k aA=>by
   rcases (eC eV).1 aA with rfl | aA
   · exact Du
   · exact I.po k aA,?_,av,fG,dn,jG.trans hle,hp,VP,fun k ok U ad=>by rw [eC eV];exact eu k ok U ad,
   fun k ok U ad aI=>Uo k ok U ad ((eC eV).1 aI),UY,VN,fun t aC=>?_⟩
  · intro k ok cQ aA bg dA af
    rw [eC eV] at aA ⊢
    rcases s3 k ok cQ aA.symm bg dA af with h | h
    · exact .inr h
    · exact .inl h
  · by_cases aV:o.dst=some t
    · refine .inl ⟨i,o,e,by rw [eC eV];exact .inl rfl,b3,aV,lx,?_⟩
      have aN:t<a.tmps.size:=by
       have:=fB.1
       rw [aV] at this
       simp only [ei,Bool.and_eq_true,Nat.blt_eq] at this
       rw [I.size];exact this.1
      rw [aV]
      simp only [Act.put]
      rw [Array.getD_eq_getD_getElem?,Array.getElem?_setIfInBounds,if_pos rfl,if_pos aN]
      exact ao
    · have di:(a.put o.dst x).tmps.getD t undef=a.tmps.getD t undef:=by
       cases Vq:o.dst with
       | none=>rfl
       | some d=>
         simp only [Act.put]
         rw [Array.getD_eq_getD_getElem?,Array.getD_eq_getD_getElem?,Array.getElem?_setIfInBounds,if_neg (fun e=>aV (by rw [Vq,e]))]
      rw [di]
      rcases rr t aC with ⟨k,ok,x0,b1,b',d',hL,mE⟩ | ⟨b1,b'⟩
      · exact .inl ⟨k,ok,x0,by rw [eC eV];exact .inr b1,b',d',hL,Rel.mono hle _ _ mE⟩
      · refine .inr ⟨fun k ok aA bg=>?_,Rel.mono hle _ _ b'⟩
        rw [eC eV] at aA
        rcases aA with rfl | aA
        · rw [b3] at bg;cases bg;exact aV
        · exact b1 k ok aA bg
 have C5:¬(fb o=true∧Made es ax az i)→∀fG k,hQ ops es ax az (listed.setIfInBounds i true) fG k↔hQ ops es ax az listed fG k:=by
  intro bm fG k
  constructor
  · rintro ⟨ok,aj,ay,aK,bE⟩
    exact ⟨ok,aj,ay,fun h=>aK ((eC eV).2 (.inr h)),bE⟩
  · rintro ⟨ok,aj,ay,aK,bE⟩
    refine ⟨ok,aj,ay,fun h=>?_,bE⟩
    rcases (eC eV).1 h with rfl | h
    · rw [b3] at aj;cases aj;exact bm ay
    · exact aK h
 cases jd:dU P o.op with
 | true=>
   cases bm:fb o with
   | true=>
     have aN:posOf az i<s:=by
      rcases Nat.lt_or_ge (posOf az i) s with h | h
      · exact h
      · have:=(level jd h).2
        rw [bm] at this;cases this
     by_cases hm:Made es ax az i
     case neg=>
      have DR:(b8 P an ops o).run (calls i) e.r (bW es ax s)=.val e.v (bW es ax s):=by
       rcases HP bm cu with ⟨cD,b_,_⟩ | ⟨_,b_⟩
       · exact absurd (show Made es ax az i from by unfold Made;rw [b_,hF];exact Nat.succ_ne_self _) hm
       · exact b_ _
      refine mW bw (cm i) (cZ i) b3 DR I.size reads nm fun av x al aj ay aK=>dd _ _ (after s F av x al aQ yP (fun k ok bg ho=>?_) (fun k ok bg mc aA=>?_) (hV.congr fun k=>C5 (fun h=>hm h.2) s k) aj ay aK)
      · constructor
        · rintro (rfl | h)
          · rw [b3] at bg;cases bg
            unfold dr at ho
            rw [bm] at ho
            simp at ho
          · exact (jL k ok bg ho).1 h
        · intro h
          exact .inr ((jL k ok bg ho).2 h)
      · rcases aA with rfl | aA
        · exact aN
        · exact cU k ok bg mc aA
     have iF:hQ ops es ax az listed s i:=⟨o,b3,⟨bm,hm⟩,pJ,aN⟩
     have Dw:(bW es ax (posOf az i+1)).next≠e.h.next:=by rw [←hF];exact hm
     have kl:nameAt es ax az i=aH e.h.next:=by unfold nameAt;rw [hF]
     have jP:=(hV.new i iF).1
     have tw:=(hV.new i iF).2
     have iH:uV es ax az i=(bW es ax (posOf az i+1)).get (aH e.h.next):=by unfold uV;rw [kl]
     rw [kl,iH] at jP
     refine SE b3 bm cu I.size reads nm Dw jP fun av x al aj ay aK=>dd _ _ (after s (F.free (aH e.h.next)) av x al aQ yP (fun k ok bg ho=>?_) (fun k ok bg mc aA=>?_) ?_ aj ay aK)
     · constructor
       · rintro (rfl | h)
         · rw [b3] at bg;cases bg
           unfold dr at ho
           rw [bm] at ho
           simp at ho
         · exact (jL k ok bg ho).1 h
       · intro h
         exact .inr ((jL k ok bg ho).2 h)
     · rcases aA with rfl | aA
       · exact aN
       · exact cU k ok bg mc aA
     · have sub:∀k,hQ ops es ax az (listed.setIfInBounds i true) s k→hQ ops es ax az listed s k∧k≠i:=by
        rintro k ⟨ok,aj,ay,aK,bE⟩
        refine ⟨⟨ok,aj,ay,fun h=>aK ((eC eV).2 (.inr h)),bE⟩,fun e=>aK ((eC eV).2 (.inl e))⟩
       refine ⟨hV.w,fun b af=>?_,fun k aA=>?_,fun k bl aA f_=>hV.inj k bl (sub k aA).1 (sub bl f_).1⟩
       · by_cases q1:b=aH e.h.next
         · subst q1
           simp only [Fr.free,if_true]
           rw [←kl,tw]
         · simp only [Fr.free,if_neg q1]
           refine hV.b0 b fun k aA=>?_
           by_cases fa:k=i
           · subst fa;rw [kl];exact fun e=>q1 e.symm
           · obtain ⟨ok,aj,ay,aK,bE⟩:=aA
             refine af k ⟨ok,aj,ay,fun h=>?_,bE⟩
             rcases (eC eV).1 h with h | h
             · exact fa h
             · exact aK h
       · obtain ⟨ta,fa⟩:=sub k aA
         have c8:nameAt es ax az k≠aH e.h.next:=fun e=>fa (hV.inj k i ta iF (by rw [e,kl]))
         simp only [Fr.free,if_neg c8]
         exact hV.new k ta
   | false=>
     have s8:dr P o=true:=by unfold dr;rw [jd,bm];rfl
     have DV:s≤posOf az i:=by
      rcases Nat.lt_or_ge (posOf az i) s with h | h
      · exact absurd ((jL i o b3 s8).2 h) pJ
      · exact h
     have tp:=(level jd DV).1
     rw [←hF,←tp] at cu
     refine mW bw (cm i) (cZ i) b3 cu I.size reads nm fun av x al aj ay aK=>?_
     rw [tp] at aK
     have Va:∀k ok,ops[k]? =some ok→fb ok=true→posOf az i+1≤posOf az k→¬(listed.setIfInBounds i true).getD k false=true:=by
      intro k ok bg mc ah h
      rcases (eC eV).1 h with rfl | h
      · omega
      · have:=cU k ok bg mc h
        omega
     have U0:Holds aw F es ax az (hQ ops es ax az (listed.setIfInBounds i true) (posOf az i+1)):=by
      refine hV.congr fun k=>?_
      rw [C5 (fun h=>by rw [bm] at h;cases h.1)]
      constructor
      · rintro ⟨ok,cd,z2,z3,z4⟩
        refine ⟨ok,cd,z2,z3,?_⟩
        have me:=(Array.getElem?_eq_some_iff.1 cd).1
        have:posOf az k≠posOf az i:=fun e=>by
         have:=C.rT me eM e
         subst this
         rw [b3] at cd;cases cd
         rw [bm] at z2;cases z2.1
        omega
      · rintro ⟨ok,cd,z2,z3,z4⟩
        exact ⟨ok,cd,z2,z3,by omega⟩
     obtain ⟨fG,dn,g1,g2,g3,g4,g5,g6⟩:=C.advance (N - (posOf az i+1)) (posOf az i+1) (by omega) Va F U0 aK
     refine dd _ _ (after fG dn av x al g1 g3 (fun k ok bg ho=>?_) (fun k ok bg mc aA=>?_) g5 aj ay g6)
     · have me:=(Array.getElem?_eq_some_iff.1 bg).1
       constructor
       · rintro (rfl | h)
         · omega
         · have:=(jL k ok bg ho).1 h
           omega
       · intro h
         by_cases fa:k=i
         · exact .inl fa
         · refine .inr ((jL k ok bg ho).2 ?_)
           rcases Nat.lt_or_ge (posOf az k) s with a6 | a6
           · exact a6
           · have c8:posOf az k≠posOf az i:=fun e=>fa (C.rT me eM e)
             have:=g4 k ok bg ho (by omega)
             omega
     · rcases aA with rfl | aA
       · omega
       · have:=cU k ok bg mc aA
         omega
 | false=>
   have bm:fb o=false:=by
    cases h:fb o with
    | false=>rfl
    | true=>rw [Wu h] at jd;cases jd
   obtain ⟨c,ar,DR⟩:∃c,(ff P c∧fm P c)∧(b8 P an ops o).run c e.r (bW es ax s)=.val e.v (bW es ax s):=by
    cases dL:looks o.op with
    | false=>exact ⟨_,⟨cm i,cZ i⟩,(qN jd cu).2 dL _⟩
    | true=>
      obtain ⟨cQ,aj,ay⟩:=C.ask i o b3 dL jd Du
      rw [lx] at aj;cases aj
      obtain ⟨c,aa,ar,aK⟩:=ay s aQ (F3 (by rw [Ex];simp) fun k mk ok U ad=>by
       simp only [Nat.zero_add]
       have bg:ops[k]? =some ok:=by simpa using ad
       cases rf:dr P ok with
       | false=>rfl
       | true=>
         simp only [cond_true]
         cases mf:Nat.blt (posOf az k) s with
         | true=>
           rw [Nat.blt_eq] at mf
           simp only [cond_true,Bool.not_eq_true']
           cases af:eJ mk i with
           | false=>rfl
           | true=>exact absurd (Jo k mk i U af ((jL k ok bg rf).2 mf)) pJ
         | false=>
           have U9:¬posOf az k<s:=by rw [←Nat.blt_eq,mf];simp
           simp only [cond_false,Bool.not_eq_true',jM,Option.getD_some]
           cases af:eJ ch k with
           | false=>rfl
           | true=>
             by_cases fa:k=i
             · subst fa
               rw [b3] at bg;cases bg
               unfold dr at rf
               rw [jd] at rf;cases rf
             · exact absurd ((jL k ok bg rf).1 (vi k fa af)) U9)
      rw [(qN jd aK).1] at aK
      exact ⟨c,ar,aK⟩
   refine mW bw ar.1 ar.2 b3 DR I.size reads nm fun av x al aj ay aK=>dd _ _ (after s F av x al aQ yP (fun k ok bg ho=>?_) (fun k ok bg mc aA=>?_) (hV.congr fun k=>C5 (fun h=>by rw [bm] at h;cases h.1) s k) aj ay aK)
   · constructor
     · rintro (rfl | h)
       · rw [b3] at bg;cases bg
         unfold dr at ho
         rw [jd] at ho;cases ho
       · exact (jL k ok bg ho).1 h
     · intro h
       exact .inr ((jL k ok bg ho).2 h)
   · rcases aA with rfl | aA
     · rw [b3] at bg;cases bg;rw [bm] at mc;cases mc
     · exact cU k ok bg mc aA
theorem HM {D:List Deferred} {aw:Fr} (C:Cert P an ops calls es bp bb cv ax dD order az N M lit) {gj:Env} (CN:N≤M) {listed:Array Bool} {a:Act} {w:World} (I:mO P aw an ops es bp ax dD az gj N D listed a w)
 (cU:∀k,k<ops.size→posOf az k<N→listed.getD k false=true):∃av,gj.le av∧RegRel0 av an cv a∧a.defers=D∧aW aw av ax w:=by
 obtain ⟨E,s,F,jG,aQ,yP,jL,_,hV,nm,rr⟩:=I.main
 have cV:es[N]? =none:=List.getElem?_eq_none (by rw [C.len];exact Nat.le_refl _)
 have q':bW es ax N=ax:=by simp [bW,cV]
 have JE:dw es cv N=cv:=by simp [dw,cV]
 have tp:s=N:=by
  rcases C.MF s aQ with (h | ⟨h,_⟩) | ⟨k,ok,b_,cA,fv⟩
  · have:=C.wk;omega
  · exact h
  · rcases Nat.lt_or_ge s N with aN | hE
    · have:=(jL k ok b_ cA).1 (cU k (Array.getElem?_eq_some_iff.1 b_).1 (by omega))
      omega
    · omega
 subst tp
 have pz:F=aw:=hV.none fun k aA=>by
  obtain ⟨ok,aj,ay,aK,bE⟩:=aA
  exact aK (cU k (Array.getElem?_eq_some_iff.1 aj).1 bE)
 subst pz
 rw [q'] at nm
 have yn:∀k,posOf az k<s→posOf az k<M:=fun k h=>by omega
 refine ⟨E,jG,⟨I.size,fun t aC=>?_⟩,I.defers,nm⟩
 have VY:∀(k bl:Nat) (ok ih:Oper),ops[k]? =some ok→ops[bl]? =some ih→posOf az k<s→posOf az bl<s→ok.dst=some t→ih.dst=some t→k=bl:=by
  intro k bl ok ih U ad bL ca aI br
  obtain ⟨mk,_,_,ah⟩:=C.ke k ok U
  obtain ⟨mk',_,gr,_⟩:=ah (yn k bL) bl ih ad (yn bl ca)
  unfold lM at gr
  rw [fK] at gr
  by_cases hW:k=bl
  · exact hW
  · rw [if_neg hW,br,aI] at gr
    simp at gr
 rcases C.Fh s (Nat.le_refl _) t aC with ⟨k,ok,x0,aj,ay,aK,bE,dh⟩ | ⟨aj,ay⟩
 · rw [JE] at dh
   rcases rr t aC with ⟨bl,ih,Cn,b1,b',d',hL,mE⟩ | ⟨b1,_⟩
   · have:=VY k bl ok ih ay b' aj (I.po bl b1) aK d'
     subst this
     rw [bE] at hL;cases hL
     rw [dh];exact mE
   · exact absurd aK (b1 k ok (cU k (Array.getElem?_eq_some_iff.1 ay).1 aj) ay)
 · rw [JE] at ay
   rcases rr t aC with ⟨bl,ih,Cn,b1,b',d',hL,mE⟩ | ⟨_,b'⟩
   · exact absurd d' (aj bl ih (I.po bl b1) b')
   · rw [ay];exact b'
theorem HU {rd:Option Nat} {D:List Deferred} {aw:Fr} (bw:dJ P) (cm:∀i,ff P (calls i)) (cZ:∀i,fm P (calls i)) (C:Cert P an ops calls es bp bb cv ax dD order az N M false) {gj:Env} {Q:Exit→Act→World→Prop}
 (cS:N=ops.size→∀av bf al,gj.le av→RegRel0 av an cv bf→bf.defers=D→aW aw av ax al→Q .normal bf al)
 (fg:∀av bf al x v aa,gj.le av→N<ops.size→ops.size≤M→(∃i0 gR,ops[i0]? =some gR∧posOf az i0=N∧(b8 P an ops gR).run (calls i0) cv ax=.cb v aa)→RegRel0 av an (lq bp ops.toList) bf→bf.defers=D→Rel av v x→aW aw av aa al→Q (.panic (mF x)) bf al)
 (dz:M<ops.size→∀(fuel:Nat) (listed:Array Bool) av bf al,(List.range ops.size).countP (fun i=>!listed.getD i false)≤fuel→listed.size=ops.size→mQ ops (fun k=>listed.getD k false=true)→(∀k,k<ops.size→(listed.getD k false=true↔posOf az k<N))→
   gj.le av→RegRel0 av an cv bf→bf.defers=D→aW aw av ax al→wpAnyIn (bS rd) 0 P .any ops Q fuel listed bf al):∀(fuel:Nat) (listed:Array Bool) (a:Act) (w:World),(List.range ops.size).countP (fun i=>!listed.getD i false)≤fuel→
 mO P aw an ops es bp ax dD az gj N D listed a w→wpAnyIn (bS rd) 0 P .any ops Q fuel listed a w:=by
 have done:∀(listed:Array Bool) (a:Act) (w:World),mO P aw an ops es bp ax dD az gj N D listed a w→Region.ready .any ops listed=[]→∀i,i<ops.size→listed.getD i false=true:=by
  intro listed a w I aG i
  induction i using Nat.strongRecOn with
  | _ i bh=>
    intro aB
    cases eV:listed.getD i false with
    | true=>rfl
    | false=>
      exfalso
      have b3:ops[i]? =some ops[i]:=Array.getElem?_eq_getElem aB
      obtain ⟨ch,_,gG,_⟩:=C.ke i _ b3
      have:i ∈ Region.ready .any ops listed:=by
       rw [mem_ready]
       refine ⟨?_,ops[i],b3,fun e he af=>?_⟩
       · have bZ:i<listed.size:=by rw [I.oK];exact aB
         rw [Array.getD_eq_getD_getElem?,Array.getElem?_eq_getElem bZ] at eV ⊢
         exact eV
       · have U:=List.all_eq_true.1 gG e (Array.mem_toList_iff.2 he)
         rw [sD] at af
         rw [af] at U
         simp only [Bool.not_true,Bool.false_or,Nat.blt_eq] at U
         exact bh e.on U (by omega)
      rw [aG] at this
      simp at this
 have CN:=C.KZ
 have full:∀(listed:Array Bool) (a:Act) (w:World),mO P aw an ops es bp ax dD az gj N D listed a w→(∀k,k<ops.size→posOf az k<N→listed.getD k false=true)→(N=ops.size∨(M<ops.size∧M=N))→
  ∃av,gj.le av∧RegRel0 av an cv a∧a.defers=D∧aW aw av ax w:=fun _ _ _ I cU _=>HM C CN I cU
 have finish:∀(listed:Array Bool) (a:Act) (w:World),mO P aw an ops es bp ax dD az gj N D listed a w→Region.ready .any ops listed=[]→Q .normal a w:=by
  intro listed a w I aG
  have cU:=done listed a w I aG
  have CO:N=ops.size:=by
   rcases Nat.lt_or_ge N ops.size with aN | hE
   · exfalso
     obtain ⟨i,rb,kR⟩:=C.iU N aN
     have:=I.po i (cU i rb)
     omega
   · exact Nat.le_antisymm C.wk hE
  obtain ⟨av,g1,g2,g3,g4⟩:=full listed a w I (fun k aA _=>cU k aA) (.inl CO)
  exact cS CO av a w g1 g2 g3 g4
 intro fuel
 induction fuel with
 | zero=>
   intro listed a w ar I
   have cU:∀i,i<ops.size→listed.getD i false=true:=by
    intro i aB
    have bb:(List.range ops.size).countP (fun i=>!listed.getD i false)=0:=by omega
    rw [List.countP_eq_zero] at bb
    simpa using bb i (List.mem_range.2 aB)
   have aG:Region.ready .any ops listed=[]:=by
    cases aF:Region.ready .any ops listed with
    | nil=>rfl
    | cons j WB=>
      exfalso
      have bH:j ∈ Region.ready .any ops listed:=by rw [aF];simp
      rw [mem_ready] at bH
      obtain ⟨U,o,ad,_⟩:=bH
      have:=cU j (Array.getElem?_eq_some_iff.1 ad).1
      rw [pw] at this
      rw [Array.getD_eq_getD_getElem?,this] at U
      simp at U
   exact ⟨aG,finish listed a w I aG⟩
 | succ fuel bh=>
   intro listed a w ar I
   by_cases yQ:M<ops.size∧∀k,k<ops.size→posOf az k<N→listed.getD k false=true
   · obtain ⟨q0,cU⟩:=yQ
     obtain ⟨av,g1,g2,g3,g4⟩:=full listed a w I cU (.inr ⟨q0,(C.tail q0).1⟩)
     exact dz q0 (fuel+1) listed av a w ar I.oK I.down (fun k aA=>⟨I.po k,cU k aA⟩) g1 g2 g3 g4
   have vG:∀i,i ∈ Region.ready .any ops listed→posOf az i<M:=by
    intro i aB
    have kR:=aB
    rw [mem_ready] at kR
    obtain ⟨U,o,ad,q6⟩:=kR
    have eM:i<ops.size:=(Array.getElem?_eq_some_iff.1 ad).1
    rcases Nat.lt_or_ge M ops.size with q0 | q0
    · obtain ⟨yn,tq⟩:=C.tail q0
      rcases Nat.lt_or_ge (posOf az i) N with aN | hE
      · omega
      · exfalso
        refine yQ ⟨q0,fun k aA Dj=>?_⟩
        obtain ⟨ch,jM,_⟩:=C.ke i o ad
        have af:=tq i o ch ad hE jM k aA Dj
        have s3:mQ ops fun k=>listed.getD k false=true∨k=i:=by
         intro k ok e aA bg he af
         rcases aA with aA | rfl
         · exact .inl (I.down k ok e aA bg he af)
         · rw [ad] at bg;cases bg
           exact .inl (q6 e (Array.mem_toList_iff.1 he) (by rw [sD];exact af))
        rcases we s3 ops.toList [] (fun j=>by simp) (fun k m j aA=>by simp at aA) i ch k jM af (.inr rfl) with h | h
        · exact h
        · subst h;omega
    · have:=(C.gy i eM).1
      omega
   refine ⟨fun aG=>finish listed a w I aG,fun i aB=>?_⟩
   refine HV bw cm cZ C I aB (vG i aB) (fun h=>by cases h) (fun bf al AD=>bh _ bf al ?_ AD) fg
   have kR:=aB
   rw [mem_ready] at kR
   obtain ⟨U,o,ad,_⟩:=kR
   have eM:i<ops.size:=(Array.getElem?_eq_some_iff.1 ad).1
   have eV:i<listed.size:=by rw [I.oK];exact eM
   have pJ:listed.getD i false=false:=by
    rw [Array.getD_eq_getD_getElem?,Array.getElem?_eq_getElem eV] at U ⊢
    exact U
   have:=xV (fun k=>!listed.getD k false) (fun k=>!(listed.setIfInBounds i true).getD k false) (List.range ops.size)
    (fun k _ aA=>by
      simp only [Bool.not_eq_true'] at aA ⊢
      cases aF:listed.getD k false with
      | false=>rfl
      | true=>
        have:=(eC (k:=k) eV).2 (.inr aF)
        rw [aA] at this
        cases this)
    ⟨i,List.mem_range.2 eM,by simp [pJ],by
      have:=(eC (k:=i) eV).2 (.inl rfl)
      simp [this]⟩
   omega
theorem ae.set_comm (h:ae) {b bz:aO} (c8:b≠bz) (k bl:bV):(h.set b k).set bz bl=(h.set bz bl).set b k:=by
 unfold ae.set
 simp only
 rw [T.put_comm _ _ _ _ _ _ (fun e=>c8 e.symm)]
theorem FG {o:Oper} {x:Operand} (h:oZ o=some x):∃t y,o.op=.store t x y∧o.dst=none∧o.guard=none:=by
 unfold oZ at h
 split at h
 case h_2=>cases h
 rename_i t M9 y aP
 split at h
 case h_2=>cases h
 rename_i aV
 split at h
 case h_2=>cases h
 rename_i aD
 cases h
 exact ⟨t,y,aP,aV,aD⟩
theorem YB {h aa:ae} {b:aO} {off:Nat} {ab:List V} (he:lay h b off ab=some aa):∃k,aa=h.set b k∧∀H:ae,H.get b=h.get b→lay H b off ab=some (H.set b k):=by
 unfold lay at he ⊢
 cases aD:h.get b<;>rw [aD] at he<;>simp only [bV.on] at he<;>try (cases he;done)
 obtain ⟨ar,U⟩:=dF he
 cases U
 refine ⟨_,rfl,fun H iF=>?_⟩
 rw [iF]
 simp only [bV.on,ar,cond_true]
theorem HR {all:Array Oper} {o:Oper} {x:Operand} {call:c9} {r:bo} {h aa:ae} {v:V} (ao:oZ o=some x) (he:(b8 P an all o).run call r h=.val v aa):
 ∃b off k,(bA x).run (cX r (bP all o))=.ptr b off∧aa=h.set b k∧∀H:ae,H.get b=h.get b→(b8 P an all o).run call r H=.val v (H.set b k):=by
 obtain ⟨t,y,aP,aV,aD⟩:=FG ao
 obtain ⟨U,ad⟩:=h5 he
 have key:b8 P an all o=⟨g_ none (eg P o) (bP all o)⟩:=by
  unfold b8
  rw [show (ei an o.dst&&ir (bP all o))=true from by rw [U,ad];rfl,aD]
  rfl
 rw [key] at he ⊢
 simp only [g_] at he ⊢
 have q3:∀H,(eg P o).run call (cX r (bP all o)) H=fV .bad ((oY P t).run H ((bA x).run (cX r (bP all o))) ((bA y).run (cX r (bP all o)))):=by
  intro H
  unfold eg
  rw [aP]
 rw [q3] at he
 cases aQ:(oY P t).run h ((bA x).run (cX r (bP all o))) ((bA y).run (cX r (bP all o))) with
 | none=>rw [aQ] at he;cases he
 | some aI=>
   rw [aQ] at he
   simp only [fV,aT.val.injEq] at he
   obtain ⟨rfl,rfl⟩:=he
   unfold oY at aQ
   cases aC:aX P t with
   | none=>rw [aC] at aQ;cases aQ
   | some aL=>
     rw [aC] at aQ
     simp only [r4] at aQ
     obtain ⟨b,off,ah,br⟩:=tR aQ
     obtain ⟨ar,cp⟩:=dF br
     obtain ⟨k,b_,cA⟩:=YB cp
     refine ⟨b,off,k,ah,b_,fun H iF=>?_⟩
     rw [q3]
     unfold oY
     rw [aC]
     simp only [r4,ah,V.ht,ar,cond_true,cA H iF,fV]
theorem t' {listed:Array Bool} (gG:∀i o,ops[i]? =some o→jY i o=true) (bZ:listed.size=ops.size) (aG:Region.ready .any ops listed=[]):∀i,i<ops.size→listed.getD i false=true:=by
 intro i
 induction i using Nat.strongRecOn with
 | _ i bh=>
   intro aB
   cases eV:listed.getD i false with
   | true=>rfl
   | false=>
     exfalso
     have b3:ops[i]? =some ops[i]:=Array.getElem?_eq_getElem aB
     have gG:=gG i _ b3
     have:i ∈ Region.ready .any ops listed:=by
      rw [mem_ready]
      refine ⟨?_,ops[i],b3,fun e he af=>?_⟩
      · have aQ:i<listed.size:=by rw [bZ];exact aB
        rw [Array.getD_eq_getD_getElem?,Array.getElem?_eq_getElem aQ] at eV ⊢
        exact eV
      · have U:=List.all_eq_true.1 gG e (Array.mem_toList_iff.2 he)
        rw [sD] at af
        rw [af] at U
        simp only [Bool.not_true,Bool.false_or,Nat.blt_eq] at U
        exact bh e.on U (by omega)
     rw [aG] at this
     simp at this
theorem rY {listed:Array Bool} {i:Nat} (adp:listed.size=ops.size) (aB:i ∈ Region.ready .any ops listed):i<ops.size∧¬listed.getD i false=true:=by
 rw [mem_ready] at aB
 obtain ⟨U,o,ad,_⟩:=aB
 refine ⟨(Array.getElem?_eq_some_iff.1 ad).1,fun h=>?_⟩
 rw [pw] at h
 rw [Array.getD_eq_getD_getElem?,h] at U
 simp at U
theorem FK {rd:Option Nat} {aw:Fr} (bw:dJ P) (cm:ff P call) (cZ:fm P call) (gG:∀i o,ops[i]? =some o→jY i o=true) {i:Nat} {o:Oper} (b3:ops[i]? =some o) (aV:o.dst=none) {r:bo} {h aa:ae} {v:V}
 (he:(b8 P an ops o).run call r h=.val v aa) {Q:Exit→Act→World→Prop} {E:Env} {a:Act} {w:World} (k:ep E an r a) (s:aW aw E h w) (cS:∀av al,E.le av→aW aw av aa al→Q .normal a al)
 {listed:Array Bool} (bZ:listed.size=ops.size) (cU:∀j,j<ops.size→(listed.getD j false=true↔j≠i)) (fuel:Nat) (ax:1≤fuel):wpAnyIn (bS rd) 0 P .any ops Q fuel listed a w:=by
 have eM:i<ops.size:=(Array.getElem?_eq_some_iff.1 b3).1
 have eV:i<listed.size:=by rw [bZ];exact eM
 cases fuel with
 | zero=>omega
 | succ fuel=>
   refine ⟨fun aG=>absurd (t' gG bZ aG i eM) (fun h=>((cU i eM).1 h) rfl),fun j bH=>?_⟩
   obtain ⟨vV,rG⟩:=rY bZ bH
   have U5:j=i:=by
    rcases Nat.decEq j i with c8 | he
    · exact absurd ((cU j vV).2 c8) rG
    · exact he
   subst U5
   refine mW bw cm cZ b3 he k.size (fun t aC=>k.aq t (Nat.le_of_ble_eq_true (List.all_eq_true.1 (h5 he).2 t aC))) s fun av x al aj ay aK=>?_
   rw [aV]
   refine wpAnyIn_done ?_ (cS av al aj aK) fuel
   cases aG:Region.ready .any ops (listed.setIfInBounds j true) with
   | nil=>rfl
   | cons m ms=>
     exfalso
     have hm:m ∈ Region.ready .any ops (listed.setIfInBounds j true):=by rw [aG];simp
     obtain ⟨m1,m2⟩:=rY (by simp [bZ]) hm
     refine m2 ((eC eV).2 ?_)
     by_cases Jq:m=j
     · exact .inl Jq
     · exact .inr ((cU m m1).2 Jq)
theorem ace {rd:Option Nat} {aw:Fr} (bw:dJ P) (cm:ff P call) (cZ:fm P call) (gG:∀i o,ops[i]? =some o→jY i o=true) {i j:Nat} {o p:Oper} (b3:ops[i]? =some o) (kS:ops[j]? =some p) (nh:i≠j) (aV:o.dst=none) (jP:p.dst=none)
 {r:bo} {h U e5 ad:ae} {v fI u fl:V} (he:(b8 P an ops o).run call r h=.val v U) (ah:(b8 P an ops p).run call r U=.val u ad) (ft:(b8 P an ops p).run call r h=.val fl e5) (dA:(b8 P an ops o).run call r e5=.val fI ad)
 {Q:Exit→Act→World→Prop} {E:Env} {a:Act} {w:World} (k:ep E an r a) (s:aW aw E h w) (cS:∀av al,E.le av→aW aw av ad al→Q .normal a al)
 {listed:Array Bool} (bZ:listed.size=ops.size) (cU:∀m,m<ops.size→(listed.getD m false=true↔(m≠i∧m≠j))) (fuel:Nat) (ax:2≤fuel):wpAnyIn (bS rd) 0 P .any ops Q fuel listed a w:=by
 have eM:i<ops.size:=(Array.getElem?_eq_some_iff.1 b3).1
 have Dg:j<ops.size:=(Array.getElem?_eq_some_iff.1 kS).1
 have ic:∀{q:Oper} {H iZ:ae} {z:V},(b8 P an ops q).run call r H=.val z iZ→∀t ∈ bP ops q,Rel E (T.get .bad (aH t) r) (a.tmps.getD t undef):=
  fun he t aC=>k.aq t (Nat.le_of_ble_eq_true (List.all_eq_true.1 (h5 he).2 t aC))
 cases fuel with
 | zero=>omega
 | succ fuel=>
   refine ⟨fun aG=>absurd (t' gG bZ aG i eM) (fun h=>((cU i eM).1 h).1 rfl),fun m hm=>?_⟩
   obtain ⟨m1,m2⟩:=rY bZ hm
   have ga:m=i∨m=j:=by
    rcases Nat.decEq m i with c8 | he
    · rcases Nat.decEq m j with Vn | dC
      · exact absurd ((cU m m1).2 ⟨c8,Vn⟩) m2
      · exact .inr dC
    · exact .inl he
   rcases ga with rfl | rfl
   · refine mW bw cm cZ b3 he k.size (ic he) s fun av x al aj ay aK=>?_
     rw [aV]
     have eV:m<listed.size:=by rw [bZ];exact eM
     refine FK bw cm cZ gG kS jP ah (k.mono aj) aK (fun bN bI b1 b'=>cS bN bI (aj.trans b1) b') (by simp [bZ]) (fun z bq=>?_) fuel (by omega)
     rw [eC eV,cU z bq]
     constructor
     · rintro (rfl | h)
       · exact nh
       · exact h.2
     · intro h
       by_cases vQ:z=m
       · exact .inl vQ
       · exact .inr ⟨vQ,h⟩
   · refine mW bw cm cZ kS ft k.size (ic ft) s fun av x al aj ay aK=>?_
     rw [jP]
     have eV:m<listed.size:=by rw [bZ];exact Dg
     refine FK bw cm cZ gG b3 aV dA (k.mono aj) aK (fun bN bI b1 b'=>cS bN bI (aj.trans b1) b') (by simp [bZ]) (fun z bq=>?_) fuel (by omega)
     rw [eC eV,cU z bq]
     constructor
     · rintro (rfl | h)
       · exact fun e=>nh e.symm
       · exact h.1
     · intro h
       by_cases vQ:z=m
       · exact .inl vQ
       · exact .inr ⟨h,vQ⟩
theorem M5 {rd:Option Nat} {id:Nat} {a:Act} {w:World} {Q:Exit→Act→World→Prop} (hm:P.follows .mixedOrders=true)
 (h:wpAnyIn (bS rd) 0 P .any ops Q ops.size (Array.replicate ops.size false) a {w with drawn:=w.drawn+1}):(Code.region id ops true).wpIn (bS rd) 0 P Q a w:=by
 refine wpIn_region_draw fun t=>?_
 rw [hm]
 exact wpAnyIn_sound _ _ _ _ _ h
theorem FO {r bn:bo}:∀{rs:List Nat},(∀t ∈ rs,T.get .bad (aH t) bn=T.get .bad (aH t) r)→cX bn rs=cX r rs
 | [],_=>rfl
 | t::cc,h=>by
   simp only [cX]
   rw [h t (by simp),FO (rs:=cc) fun u hu=>h u (by simp [hu])]
theorem SC {all:Array Oper} {o:Oper} {call:c9} {r bn:bo} (h:∀t ∈ bP all o,T.get .bad (aH t) bn=T.get .bad (aH t) r) (H:ae):(b8 P an all o).run call bn H=(b8 P an all o).run call r H:=by
 unfold b8
 cases ar:(ei an o.dst&&ir (bP all o)) with
 | false=>rfl
 | true=>
   simp only [cond_true]
   cases aD:o.guard with
   | none=>simp only [g_,FO h]
   | some mw=>
     obtain ⟨j,want⟩:=mw
     simp only
     cases all[j]? with
     | none=>rfl
     | some g=>
       simp only
       cases g.dst with
       | none=>rfl
       | some d=>
         simp only
         cases (Nat.blt d an&&Nat.ble d top) with
         | false=>rfl
         | true=>simp only [cond_true,g_,FO h]
theorem acd {rd:Option Nat} {aw:Fr} (bw:dJ P) (cm:ff P call) (cZ:fm P call) (gG:∀i o,ops[i]? =some o→jY i o=true) {l i j:Nat} {b o p:Oper} (ri:ops[l]? =some b) (b3:ops[i]? =some o) (kS:ops[j]? =some p)
 (eV:l≠i) (Ji:l≠j) (nh:i≠j) (aV:o.dst=none) (jP:p.dst=none) {r bt:bo} {h U e5 ad:ae} {z v fI u fl:V}
 (af:∀H,(b8 P an ops b).run call r H=.val z H) (oB:bt=(eA b.dst).run r z) (tn:∀t ∈ bP ops p,T.get .bad (aH t) bt=T.get .bad (aH t) r)
 (he:(b8 P an ops o).run call bt h=.val v U) (ah:(b8 P an ops p).run call bt U=.val u ad) (ft:(b8 P an ops p).run call bt h=.val fl e5) (dA:(b8 P an ops o).run call bt e5=.val fI ad)
 {Q:Exit→Act→World→Prop} {E:Env} {a:Act} {w:World} (k:ep E an r a) (s:aW aw E h w) (cS:∀av bf al,E.le av→ep av an bt bf→aW aw av ad al→Q .normal bf al)
 {listed:Array Bool} (bZ:listed.size=ops.size) (py:mQ ops fun k=>listed.getD k false=true) (V3:∀ch,(dM [] ops.toList)[i]? =some ch→eJ ch l=true) (jM:∃ch,(dM [] ops.toList)[i]? =some ch)
 (cU:∀m,m<ops.size→(listed.getD m false=true↔(m≠l∧m≠i∧m≠j))) (fuel:Nat) (ax:3≤fuel):wpAnyIn (bS rd) 0 P .any ops Q fuel listed a w:=by
 have yH:l<ops.size:=(Array.getElem?_eq_some_iff.1 ri).1
 have eM:i<ops.size:=(Array.getElem?_eq_some_iff.1 b3).1
 have Dg:j<ops.size:=(Array.getElem?_eq_some_iff.1 kS).1
 have ic:∀{E:Env} {a:Act} {q:Oper} {R:bo} {H iZ:ae} {z:V},ep E an R a→(b8 P an ops q).run call R H=.val z iZ→∀t ∈ bP ops q,Rel E (T.get .bad (aH t) R) (a.tmps.getD t undef):=
  fun k he t aC=>k.aq t (Nat.le_of_ble_eq_true (List.all_eq_true.1 (h5 he).2 t aC))
 have K1:∀(L:Array Bool),(mQ ops fun k=>L.getD k false=true)→¬L.getD l false=true→i ∈ Region.ready .any ops L→False:=by
  intro L Ua pI td
  rw [mem_ready] at td
  obtain ⟨_,bU,fO,q6⟩:=td
  rw [b3] at fO;cases fO
  obtain ⟨ch,jM⟩:=jM
  have s3:mQ ops fun k=>L.getD k false=true∨k=i:=by
   intro k ok e aA bg he af
   rcases aA with aA | rfl
   · exact .inl (Ua k ok e aA bg he af)
   · rw [b3] at bg;cases bg
     exact .inl (q6 e (Array.mem_toList_iff.1 he) (by rw [sD];exact af))
  rcases we s3 ops.toList [] (fun j=>by simp) (fun k m j aA=>by simp at aA) i ch l jM (V3 ch jM) (.inr rfl) with h | h
  · exact pI h
  · exact eV h
 have SH:∀m,m ∈ Region.ready .any ops listed→mQ ops fun k=>(listed.setIfInBounds m true).getD k false=true:=by
  intro m hm k ok e aA bg he af
  have kU:=hm
  rw [mem_ready] at kU
  obtain ⟨_,aeh,Jw,q6⟩:=kU
  have Vj:m<listed.size:=by rw [bZ];exact (Array.getElem?_eq_some_iff.1 Jw).1
  rw [eC Vj] at aA ⊢
  rcases aA with rfl | aA
  · rw [Jw] at bg;cases bg
    exact .inr (q6 e (Array.mem_toList_iff.1 he) (by rw [sD];exact af))
  · exact .inr (py k ok e aA bg he af)
 cases fuel with
 | zero=>omega
 | succ fuel=>
   refine ⟨fun aG=>absurd (t' gG bZ aG i eM) (fun h=>((cU i eM).1 h).2.1 rfl),fun m hm=>?_⟩
   obtain ⟨m1,m2⟩:=rY bZ hm
   have ga:m=l∨m=j:=by
    rcases Nat.decEq m l with da | aE
    · rcases Nat.decEq m j with jX | aM
      · rcases Nat.decEq m i with n3 | b9
        · exact absurd ((cU m m1).2 ⟨da,n3,jX⟩) m2
        · subst b9
          exact (K1 listed py (fun h=>((cU l yH).1 h).1 rfl) hm).elim
      · exact .inr aM
    · exact .inl aE
   rcases ga with rfl | rfl
   · -- p first
     have je:m<listed.size:=by rw [bZ];exact yH
     refine mW bw cm cZ ri (af h) k.size (ic k (af h)) s fun av x al aj ay aK=>?_
     have b_:ep av an bt (a.put b.dst x):=by rw [oB];exact (k.mono aj).put (h5 (af h)).1 ay
     refine ace bw cm cZ gG b3 kS nh aV jP he ah ft dA b_ aK (fun bN bI b1 b'=>cS bN _ bI (aj.trans b1) (b_.mono b1) b') (by simp [bZ]) (fun y aZ=>?_) fuel (by omega)
     rw [eC je,cU y aZ]
     constructor
     · rintro (rfl | h)
       · exact ⟨eV,Ji⟩
       · exact h.2
     · intro h
       by_cases vO:y=m
       · exact .inl vO
       · exact .inr ⟨vO,h⟩
   · -- q first
     have je:m<listed.size:=by rw [bZ];exact Dg
     have rn:(b8 P an ops p).run call r h=.val fl e5:=by rw [←SC tn];exact ft
     have Ub:=SH m hm
     refine mW bw cm cZ kS rn k.size (ic k rn) s fun av x al aj ay aK=>?_
     rw [jP]
     have ry:(listed.setIfInBounds m true).size=ops.size:=by simp [bZ]
     cases fuel with
     | zero=>omega
     | succ fuel=>
       refine ⟨fun aG=>absurd (t' gG ry aG i eM) (fun h=>?_),fun y aZ=>?_⟩
       · rcases (eC je).1 h with e | h
         · exact nh e
         · exact ((cU i eM).1 h).2.1 rfl
       obtain ⟨ed,gL⟩:=rY ry aZ
       have V':y=l:=by
        rcases Nat.decEq y l with da | aE
        · rcases Nat.decEq y i with n3 | b9
          · exfalso
            refine gL ((eC je).2 ?_)
            by_cases vO:y=m
            · exact .inl vO
            · exact .inr ((cU y ed).2 ⟨da,n3,vO⟩)
          · subst b9
            refine (K1 _ Ub (fun h=>?_) aZ).elim
            rcases (eC je).1 h with e | h
            · exact Ji e
            · exact ((cU l yH).1 h).1 rfl
        · exact aE
       subst V'
       have bl:=k.mono aj
       refine mW bw cm cZ ri (af e5) bl.size (ic bl (af e5)) aK fun bN dE bI t1 t2 t3=>?_
       have b_:ep bN an bt (a.put b.dst dE):=by rw [oB];exact (bl.mono t1).put (h5 (af h)).1 t2
       have Dv:y < (listed.setIfInBounds m true).size:=by rw [ry];exact yH
       refine FK bw cm cZ gG b3 aV dA b_ t3 (fun lX lV b1 b'=>cS lX _ lV (aj.trans (t1.trans b1)) (b_.mono b1) b') (by simp [bZ]) (fun g aD=>?_) fuel (by omega)
       rw [eC Dv,eC je,cU g aD]
       constructor
       · rintro (rfl | rfl | h)
         · exact eV
         · exact fun e=>nh e.symm
         · exact h.2.1
       · intro h
         by_cases aE:g=y
         · exact .inl aE
         · by_cases aM:g=m
           · exact .inr (.inl aM)
           · exact .inr (.inr ⟨aE,h,aM⟩)
theorem Cj {rd:Option Nat} {aw:Fr} {E:Env} {h:ae} {w:World} {id:Nat} (cR:P.follows .mixedOrders=true) (bw:dJ P) (cm:ff P call) (cZ:fm P call) {r:bo} {a:Act}
 {Q:Exit→Act→World→Prop} (k:ep E an r a) (s:aW aw E h w) {es:List dS} {en:bo} {a6:ae} {order az dD:List Nat} {N M:Nat} (C:Cert P an ops (fun _=>call) es r h en a6 dD order az N M false)
 (cS:N=ops.size→∀av bf al,E.le av→ep av an en bf→aW aw av a6 al→Q .normal bf al)
 (fg:∀av bf al x v aa,E.le av→N<ops.size→ops.size≤M→(∃i0 gR,ops[i0]? =some gR∧posOf az i0=N∧(b8 P an ops gR).run call en a6=.cb v aa)→ep av an (lq r ops.toList) bf→Rel av v x→aW aw av aa al→Q (.panic (mF x)) bf al)
 (dz:M<ops.size→∀(fuel:Nat) (listed:Array Bool) av bf al,(List.range ops.size).countP (fun i=>!listed.getD i false)≤fuel→listed.size=ops.size→mQ ops (fun k=>listed.getD k false=true)→(∀k,k<ops.size→(listed.getD k false=true↔posOf az k<N))→
   E.le av→ep av an en bf→aW aw av a6 al→wpAnyIn (bS rd) 0 P .any ops Q fuel listed bf al):
 (Code.region id ops true).wpIn (bS rd) 0 P Q a w:=by
 have cV:∀k,¬(Array.replicate ops.size false).getD k false=true:=by
  intro k
  rw [pw,Array.getElem?_replicate]
  split<;>simp
 have hV:Holds aw aw es a6 az (hQ ops es a6 az (Array.replicate ops.size false) 0):=
  ⟨rfl,fun _ _=>rfl,fun k aA=>(by obtain ⟨_,_,_,_,bb⟩:=aA;omega),fun k bl aA=>(by obtain ⟨_,_,_,_,bb⟩:=aA;omega)⟩
 obtain ⟨fG,dn,g1,g2,g3,g4,g5,g6⟩:=C.advance N 0 (by omega) (fun k o _ _ _=>cV k) aw hV (E:=E) (w:={w with drawn:=w.drawn}) (by rw [C.bb];exact s.same rfl rfl rfl rfl)
 have jc:∀(av:Env) (bf:Act),E.le av→bf.defers=a.defers→∀(bn:bo),T.get .bad dT bn=T.get .bad dT r→iY av (T.get .bad dT bn) bf.defers:=fun av bf he aV bn oA=>by rw [oA,aV];exact k.defers.mono he
 have yx:T.get .bad dT en=T.get .bad dT r:=by
  have:=C.Ck N (Nat.le_refl _)
  have DC:es[N]? =none:=List.getElem?_eq_none (by rw [C.len];exact Nat.le_refl _)
  simpa [dw,DC] using this
 refine M5 cR (HU bw (fun _=>cm) (fun _=>cZ) C (gj:=E) (D:=a.defers)
  (fun a7 av bf al aj ay aK bE=>cS a7 av bf al aj ⟨ay,jc av bf aj aK en yx⟩ bE)
  (fun av bf al x v aa aj ay LS aK bE dh eW iV=>fg av bf al x v aa aj ay LS aK ⟨bE,jc av bf aj dh _ x4⟩ eW iV)
  (fun g0 fuel listed av bf al g1 g2 g3 g4 aj ay aK bE=>dz g0 fuel listed av bf al g1 g2 g3 g4 aj ⟨ay,jc av bf aj aK en yx⟩ bE) ops.size _ a _ ?_ ?_)
 · exact Nat.le_trans List.countP_le_length (by simp)
 · refine ⟨by simp,k.size,rfl,fun bl aA=>absurd aA (cV bl),fun bl o e aA=>absurd aA (cV bl),E,fG,dn,Env.le.refl E,g1,g3,fun bl o U ad=>⟨fun h=>absurd h (cV bl),fun h=>by have:=g4 bl o U ad (Nat.zero_le _);omega⟩,
    fun bl o _ _ h=>absurd h (cV bl),g5,?_,fun t aC=>.inr ⟨fun bl o aA=>absurd aA (cV bl),k.aq t aC⟩⟩
   exact g6.same rfl rfl rfl rfl
theorem Lu {n:Nat} {order az:List Nat} (fi:jv n order az=true):order.length=n∧(∀k,k<n→posOf az k<n∧order[posOf az k]? =some k)∧∀p,p<n→∃i,i<n∧posOf az i=p:=by
 unfold jv at fi
 simp only [Bool.and_eq_true,Nat.beq_eq] at fi
 obtain ⟨lA,tf,vw,vx⟩:=fi
 refine ⟨lA,fun k aA=>?_,fun p ah=>?_⟩
 · have aD:az[k]? =some (posOf az k):=by
    unfold posOf
    rw [List.getElem?_eq_getElem (by omega)]
    rfl
   have:=p8 vw aD
   rw [Nat.zero_add] at this
   exact ⟨by have:=(List.getElem?_eq_some_iff.1 this).1;omega,this⟩
 · have aD:order[p]? =some (order[p]'(by omega)):=List.getElem?_eq_getElem (by omega)
   have:=p8 vx aD
   rw [Nat.zero_add] at this
   refine ⟨order[p]'(by omega),by have:=(List.getElem?_eq_some_iff.1 this).1;omega,?_⟩
   unfold posOf
   rw [this]
   rfl
theorem aca {order az:List Nat} (ax:wU P ops order az=true):3≤ops.size∧∀i o,ops[i]? =some o→∃ch,(dM [] ops.toList)[i]? =some ch∧jY i o=true∧
 (posOf az i<ops.size-3→∀k ok,ops[k]? =some ok→posOf az k<ops.size-3→∃mk,(dM [] ops.toList)[k]? =some mk∧lM i ch (bP ops o) o.dst k mk ok (Nat.blt (posOf az k) (posOf az i))=true∧(dU P o.op=true→dr P ok=true→posOf az k<posOf az i→eJ ch k=true))∧
 (¬posOf az i<ops.size-3→Aj P ops order az (ops.size-3) i ch o=true):=by
 unfold wU at ax
 simp only [Bool.and_eq_true,Nat.ble_eq] at ax
 refine ⟨ax.1,fun i o aB=>?_⟩
 obtain ⟨ch,U,ad⟩:=mN ax.2 i o (by simpa using aB)
 simp only [Nat.zero_add,Bool.and_eq_true] at ad
 refine ⟨ch,U,ad.1,fun aN k ok aA me=>?_,fun hE=>?_⟩
 · have aI:=ad.2
   rw [show Nat.blt (posOf az i) (ops.size-3)=true from by rw [Nat.blt_eq];exact aN] at aI
   simp only [cond_true] at aI
   obtain ⟨mk,b_,cA⟩:=mN aI k ok (by simpa using aA)
   simp only [Nat.zero_add] at cA
   rw [show Nat.blt (posOf az k) (ops.size-3)=true from by rw [Nat.blt_eq];exact me] at cA
   simp only [cond_true,Bool.and_eq_true] at cA
   refine ⟨mk,b_,cA.1,fun aE aM aN=>?_⟩
   have fv:=cA.2
   rw [aE,aM,Bool.true_and,show Nat.blt (posOf az k) (posOf az i)=true from by rw [Nat.blt_eq];exact aN] at fv
   exact fv
 · have aI:=ad.2
   rw [show Nat.blt (posOf az i) (ops.size-3)=false from by rw [←Bool.not_eq_true,Nat.blt_eq];exact hE] at aI
   exact aI
theorem acb {order az:List Nat} {N i ch p:Nat} {o zD:Oper} (ah:order[N]? =some p) (jg:ops[p]? =some zD) (h:Aj P ops order az N i ch o=true):
 (∀k,k<ops.size→posOf az k<N→eJ ch k=true)∧(posOf az i=N→dU P o.op=false∧looks o.op=false)∧(posOf az i≠N→∃x,oZ o=some x)∧
 (posOf az i=N+1→eJ ch p=true)∧(posOf az i=N+2→∀t ∈ bP ops o,zD.dst≠some t):=by
 unfold Aj at h
 rw [ah] at h
 simp only [Bool.and_eq_true] at h
 obtain ⟨⟨U,ad⟩,aI,br⟩:=h
 refine ⟨fun k aA Dj=>?_,fun e=>?_,fun e=>?_,fun e=>?_,fun e t aC=>?_⟩
 · obtain ⟨mk,b_,cA⟩:=mN U k ops[k] (by simp)
   simp only [Nat.zero_add] at cA
   rw [show Nat.blt (posOf az k) N=true from by rw [Nat.blt_eq];exact Dj] at cA
   exact cA
 · rw [fK,if_pos e] at ad
   simpa using ad
 · rw [fK,if_neg e] at ad
   exact Option.isSome_iff_exists.1 ad
 · rw [fK,if_pos e] at aI
   exact aI
 · rw [fK,if_pos e,jg] at br
   simp only at br
   intro aV
   rw [aV] at br
   simp only [Bool.not_eq_true'] at br
   rw [show (bP ops o).contains t=true from by simpa using aC] at br
   cases br
theorem C3 {es:List dS} {a6:ae} {N p:Nat} (ah:p≤N):bW (es.take N) (bW es a6 N) p=bW es a6 p:=by
 by_cases h:p<N
 · cases he:es[p]? with
   | some e=>simp [bW,h,he]
   | none=>
     have a7:es[N]? =none:=List.getElem?_eq_none (by have:=List.getElem?_eq_none_iff.1 he;omega)
     simp [bW,h,he,a7]
 · have:p=N:=by omega
   subst this
   simp [bW,List.getElem?_take]
theorem L0 {es:List dS} {en:bo} {N p:Nat} (ah:p≤N):dw (es.take N) (dw es en N) p=dw es en p:=by
 by_cases h:p<N
 · cases he:es[p]? with
   | some e=>simp [dw,h,he]
   | none=>
     have a7:es[N]? =none:=List.getElem?_eq_none (by have:=List.getElem?_eq_none_iff.1 he;omega)
     simp [dw,h,he,a7]
 · have:p=N:=by omega
   subst this
   simp [dw,List.getElem?_take]
theorem N_ {order:List Nat} {es:List dS} {N i j:Nat} {o p:Oper} {e f:dS} {x y:Operand} (bm:xx ops order es N=true) (aB:order[N]? =some i) (bH:order[N+1]? =some j) (b3:ops[i]? =some o) (kS:ops[j]? =some p)
 (he:es[N]? =some e) (ax:es[N+1]? =some f) (ao:oZ o=some x) (aZ:oZ p=some y) {b c:aO} {off k4:Nat} (af:(bA x).run (cX e.r (bP ops o))=.ptr b off) (ar:(bA y).run (cX f.r (bP ops p))=.ptr c k4):b≠c:=by
 unfold xx FH at bm
 simp only [aB,bH,b3,kS,he,ax,ao,aZ,af,ar] at bm
 intro h
 subst h
 rw [aO.u'] at bm
 cases bm
set_option maxHeartbeats 2000000 in
theorem SJ {rd:Option Nat} {aw:Fr} {E:Env} {h:ae} {w:World} {id:Nat} (cR:P.follows .mixedOrders=true) (bw:dJ P) (cm:ff P call) (cZ:fm P call) {r:bo} {a:Act} {order az:List Nat} (fi:jv ops.size order az=true) (fB:wU P ops order az=true)
 {Q:Exit→Act→World→Prop} (ah:kJ aw E an (Q .normal) Q (Ci ops order (ez P an ops (fF ops order)) (nZ P an ops (dM [] ops.toList) az (fT P az 0 ops.toList) 0 ops.toList) call r h)) (k:ep E an r a) (s:aW aw E h w):(Code.region id ops true).wpIn (bS rd) 0 P Q a w:=by
 obtain ⟨lA,gy,iU⟩:=Lu fi
 obtain ⟨ad,fB⟩:=aca fB
 unfold Ci at ah
 cases cf:(ez P an ops (fF ops order)).run call r h with
 | fail=>rw [cf] at ah;exact ah.elim
 | cb _ _ _ _ _=>rw [cf] at ah;exact ah.elim
 | ok es en a6=>
   rw [cf] at ah
   simp only at ah
   obtain ⟨N,Uj⟩:∃N,N=ops.size-3:=⟨_,rfl⟩
   rw [←Uj] at ah fB
   cases aF:(xx ops order es (N+1)&&(nZ P an ops (dM [] ops.toList) az (fT P az 0 ops.toList) 0 ops.toList).run call (es.take N) (bW es a6 N)) with
   | false=>rw [aF] at ah;exact ah.elim
   | true=>
     rw [aF] at ah
     simp only [cond_true] at ah
     simp only [Bool.and_eq_true] at aF
     obtain ⟨yt,vg⟩:=aF
     obtain ⟨aj,ay,aK,bE⟩:=qj cf
     have hlen:es.length=ops.size:=by rw [aj,mD,lA]
     have inj:∀i j,i<ops.size→j<ops.size→posOf az i=posOf az j→i=j:=by
      intro i j aB bH he
      have a:=(gy i aB).2
      have b:=(gy j bH).2
      rw [he,b] at a
      cases a
      rfl
     obtain ⟨jR,pA,s4⟩:=iU N (by omega)
     obtain ⟨lC,sZ,s0⟩:=iU (N+1) (by omega)
     obtain ⟨nr,oh,qY⟩:=iU (N+2) (by omega)
     have vp:ops[jR]? =some ops[jR]:=Array.getElem?_eq_getElem pA
     have yC:ops[lC]? =some ops[lC]:=Array.getElem?_eq_getElem sZ
     have yD:ops[nr]? =some ops[nr]:=Array.getElem?_eq_getElem oh
     have DI:=(gy jR pA).2
     have DG:=(gy lC sZ).2
     have DH:=(gy nr oh).2
     rw [s4] at DI
     rw [s0] at DG
     rw [qY] at DH
     have tq:∀i o,ops[i]? =some o→¬posOf az i<N→∃ch,(dM [] ops.toList)[i]? =some ch∧(∀k,k<ops.size→posOf az k<N→eJ ch k=true)∧(posOf az i=N→dU P o.op=false∧looks o.op=false)∧(posOf az i≠N→∃x,oZ o=some x)∧
      (posOf az i=N+1→eJ ch jR=true)∧(posOf az i=N+2→∀t ∈ bP ops o,ops[jR].dst≠some t):=by
      intro i o aB hE
      obtain ⟨ch,cd,_,_,z4⟩:=fB i o aB
      exact ⟨ch,cd,acb DI vp (z4 hE)⟩
     obtain ⟨ad7,_,_,ab_,_⟩:=tq jR _ vp (by omega)
     obtain ⟨Za,Jn,_,_,ab9,ak,_⟩:=tq lC _ yC (by omega)
     obtain ⟨ad6,adS,_,_,ab',_,Fc⟩:=tq nr _ yD (by omega)
     obtain ⟨H2,Y6⟩:=ab_ s4
     obtain ⟨aeE,D4⟩:=ab9 (by omega)
     obtain ⟨aeF,D5⟩:=ab' (by omega)
     have ak:=ak s0
     have Fc:=Fc qY
     obtain ⟨Cm,e7,hr,y7⟩:=bE _ _ (kv DI vp)
     obtain ⟨qO,bK,a2,a3⟩:=bE _ _ (kv DG yC)
     obtain ⟨HZ,bL,ca,hS⟩:=bE _ _ (kv DH yD)
     obtain ⟨aev,aeI,ZL,HF,adB⟩:=FG D4
     obtain ⟨aew,aeJ,aed,HG,adC⟩:=FG D5
     have cV:es[N+2+1]? =none:=List.getElem?_eq_none (by omega)
     have U_:bW es a6 (N+2+1)=a6:=by simp [bW,cV]
     have aa9:dw es en (N+2+1)=en:=by simp [dw,cV]
     have Ui:bW es a6 N=Cm.h:=by simp [bW,e7]
     have aaO:dw es en N=Cm.r:=by simp [dw,e7]
     have Ug:bW es a6 (N+1)=qO.h:=by simp [bW,bK]
     have aaM:dw es en (N+1)=qO.r:=by simp [dw,bK]
     have Uh:bW es a6 (N+1+1)=HZ.h:=by simp [bW,bL]
     have aaN:dw es en (N+1+1)=HZ.r:=by simp [dw,bL]
     rw [aaM] at y7
     rw [Ug] at hr
     rw [HF,aaN] at a3
     rw [HG,aa9] at hS
     simp only [eA] at a3 hS
     rw [Uh] at a2
     rw [U_] at ca
     obtain ⟨Uf,CM⟩:=qN H2 hr
     have CM:=CM Y6
     obtain ⟨GO,aee,WC,aao,Mg,acD⟩:=HR D4 a2
     obtain ⟨Ba,aef,Kd,aap,abo,acE⟩:=HR D5 ca
     have c8:GO≠Ba:=N_ yt DG DH yC yD bK bL D4 D5 aao aap
     have CL:=acE qO.h (by rw [Mg,ae.dG,if_neg c8])
     have vf:=acD (qO.h.set Ba Kd) (by rw [ae.dG,if_neg (fun e=>c8 e.symm)])
     have UC:(qO.h.set Ba Kd).set GO WC=a6:=by rw [ae.set_comm _ (fun e=>c8 e.symm),←Mg,←abo]
     rw [UC] at vf
     rw [a3] at CL ca
     have rv:en=qO.r:=hS.trans a3
     have Vk:∀m,m<ops.size→(posOf az m<N↔(m≠jR∧m≠lC∧m≠nr)):=by
      intro m hm
      have adW:=(gy m hm).1
      constructor
      · intro h
        exact ⟨fun e=>by subst e;omega,fun e=>by subst e;omega,fun e=>by subst e;omega⟩
      · rintro ⟨cg,da,jX⟩
        have xP:posOf az m≠N:=fun e=>cg (inj m jR hm pA (by rw [e,s4]))
        have bC:posOf az m≠N+1:=fun e=>da (inj m lC hm sZ (by rw [e,s0]))
        have bY:posOf az m≠N+2:=fun e=>jX (inj m nr hm oh (by rw [e,qY]))
        omega
     have UA:dr P ops[lC]=true:=by unfold dr fb;rw [ZL];rfl
     have tn:∀t ∈ bP ops ops[nr],T.get .bad (aH t) qO.r=T.get .bad (aH t) Cm.r:=by
      intro t aC
      have ts:t≤top:=Nat.le_of_ble_eq_true (List.all_eq_true.1 (h5 ca).2 t aC)
      rw [y7,ID (h5 hr).1 ts,if_neg (Fc t aC)]
     have gb:∀i o,ops[i]? =some o→posOf az i<N→∃e,(es.take N)[posOf az i]? =some e∧(b8 P an ops o).run call e.r e.h=.val e.v (bW (es.take N) (bW es a6 N) (posOf az i+1))∧dw (es.take N) (dw es en N) (posOf az i+1)=(eA o.dst).run e.r e.v:=by
      intro i o aP aB
      obtain ⟨e,cd,z2,z3⟩:=bE _ o (kv (gy i (Array.getElem?_eq_some_iff.1 aP).1).2 aP)
      refine ⟨e,by simp [aB,cd],?_,?_⟩
      · rw [C3 (by omega)];exact z2
      · rw [L0 (by omega)];exact z3
     have C:Cert P an ops (fun _=>call) (es.take N) r h (dw es en N) (bW es a6 N) (N::fT P az 0 ops.toList) order az N N false:=
      ⟨by simp [hlen];omega,by omega,Nat.le_refl _,gy,iU,by rw [C3 (Nat.zero_le _)];exact ay,by rw [L0 (Nat.zero_le _)];exact aK,gb,
        fun i o aP=>by
         obtain ⟨ch,cd,z2,z3,_⟩:=fB i o aP
         exact ⟨ch,cd,z2,fun aB k ok aA Di=>by
          obtain ⟨mk,ed,gL,y3⟩:=z3 aB k ok aA Di
          exact ⟨mk,ed,gL,fun a b c=>.inl (y3 a b c)⟩⟩,
        by simp,
        fun j o U ad=>List.mem_cons_of_mem _ (by simpa using tE (az:=az) (i:=0) (j:=j) (l:=ops.toList) (by simpa using U) ad),
        fun s aQ=>by
         rcases List.mem_cons.1 aQ with rfl | aQ
         · exact .inl (.inr ⟨rfl,rfl⟩)
         · rcases pX aQ with h | ⟨j,o,U,ad,aI⟩
           · exact .inl (.inl (by simpa using h))
           · exact .inr ⟨j,o,by simpa using U,ad,by simpa using aI⟩,
        fun j o U ad aI br=>by
         obtain ⟨e,g1,_⟩:=gb j o U br
         have JL:=A7 vg j o (by simpa using U) ad aI e (by simpa using g1)
         refine ⟨e,g1,fun s aQ hm=>?_⟩
         rcases List.mem_cons.1 aQ with rfl | aQ
         · have kk:oN P (dM [] ops.toList) ops.toList az j (((dM [] ops.toList)[j]?).getD 0) (s+1)=true:=by
            unfold oN at hm ⊢
            refine F3 (by rw [Ex];simp) fun cD mk ok ed gL=>?_
            obtain ⟨mk',bu,dE⟩:=mN hm cD ok gL
            rw [ed] at bu;cases bu
            simp only [Nat.zero_add] at dE ⊢
            have bg:ops[cD]? =some ok:=by simpa using gL
            have me:=(Array.getElem?_eq_some_iff.1 bg).1
            by_cases mf:posOf az cD=s
            · have:cD=jR:=inj cD jR me pA (by rw [mf,s4])
              subst this
              rw [vp] at bg;cases bg
              have Vm:dr P ops[cD]=false:=by unfold dr;rw [H2];rfl
              rw [Vm]
              rfl
            · have:Nat.blt (posOf az cD) (s+1)=Nat.blt (posOf az cD) s:=by
               rw [Bool.eq_iff_iff,Nat.blt_eq,Nat.blt_eq]
               omega
              rw [this]
              exact dE
           have td:s+1 ∈ fT P az 0 ops.toList:=by rw [←s0];simpa using tE (P:=P) (az:=az) (i:=0) (j:=lC) (l:=ops.toList) (by simp) UA
           obtain ⟨aa,g3⟩:=JL (s+1) td (by simpa using kk)
           refine ⟨call,aa,⟨cm,cZ⟩,?_⟩
           have aE:bW (es.take s) (bW es a6 s) (s+1)=bW es a6 s:=by
            have:(es.take s)[s+1]? =none:=List.getElem?_eq_none (by simp;omega)
            simp only [bW,this]
           have aM:bW (es.take s) (bW es a6 s) s=bW es a6 s:=C3 (Nat.le_refl _)
           rw [aE] at g3
           rw [aM]
           exact g3
         · obtain ⟨aa,g3⟩:=JL s aQ (by simpa using hm)
           exact ⟨call,aa,⟨cm,cZ⟩,g3⟩,
        fun _=>⟨rfl,fun cD ok mk aA hE Dx j bH vq=>by
         obtain ⟨ch,cd,z2,_⟩:=tq cD ok aA (by omega)
         rw [Dx] at cd;cases cd
         exact z2 j bH vq⟩,
        fun U ad=>by omega⟩
     refine Cj cR bw cm cZ k s C (fun h=>by omega) (fun _ _ _ _ _ _ _ _ h=>by omega) (fun _ fuel listed av bf al g1 g2 g3 g4 g5 g6 g7=>?_)
     rw [aaO] at g6
     rw [Ui] at g7
     rw [Uf] at a2 CL vf
     refine acd bw cm cZ (fun i o aP=>by obtain ⟨ch,_,z2,_⟩:=fB i o aP;exact z2) vp yC yD (fun e=>by rw [e] at s4;omega) (fun e=>by rw [e] at s4;omega) (fun e=>by rw [e] at s0;omega) HF HG
      CM y7 tn a2 ca CL vf g6 g7 (fun bN a2 bI b1 b' d'=>ah bN a2 bI (g5.trans b1) (by rw [rv];exact b') d') g2 g3 (fun ch jM=>by rw [Jn] at jM;cases jM;exact ak) ⟨Za,Jn⟩ (fun m hm=>(g4 m hm).trans (Vk m hm)) fuel ?_
     have Cb:∀(L:Array Bool) (x:Nat),L.size=ops.size→x<ops.size→¬L.getD x false=true→(List.range ops.size).countP (fun k=>!(L.setIfInBounds x true).getD k false) < (List.range ops.size).countP (fun k=>!L.getD k false):=by
      intro L x cy ao a7
      have tz:x<L.size:=by rw [cy];exact ao
      refine xV (fun k=>!L.getD k false) (fun k=>!(L.setIfInBounds x true).getD k false) (List.range ops.size) (fun k _ aA=>?_) ⟨x,List.mem_range.2 ao,?_,?_⟩
      · simp only [Bool.not_eq_true'] at aA ⊢
        cases aF:L.getD k false with
        | false=>rfl
        | true=>
          have:=(eC (k:=k) tz).2 (.inr aF)
          rw [aA] at this
          cases this
      · cases aF:L.getD x false with
        | false=>rfl
        | true=>exact absurd aF a7
      · have:=(eC (k:=x) tz).2 (.inl rfl)
        simp [this]
     have Zp:¬listed.getD jR false=true:=fun h=>by have:=(g4 jR pA).1 h;omega
     have Zn:¬listed.getD lC false=true:=fun h=>by have:=(g4 lC sZ).1 h;omega
     have Zo:¬listed.getD nr false=true:=fun h=>by have:=(g4 nr oh).1 h;omega
     have bC:=Cb listed jR g2 pA Zp
     have bY:=Cb (listed.setIfInBounds jR true) lC (by simp [g2]) sZ (fun h=>by
      rcases (eC (by rw [g2];exact pA)).1 h with e | h
      · rw [e] at s0;omega
      · exact Zn h)
     have c3:=Cb ((listed.setIfInBounds jR true).setIfInBounds lC true) nr (by simp [g2]) oh (fun h=>by
      rcases (eC (by simp [g2];exact sZ)).1 h with e | h
      · rw [e] at qY;omega
      · rcases (eC (by rw [g2];exact pA)).1 h with e | h
        · rw [e] at qY;omega
        · exact Zo h)
     omega
end
end Go.Proofs.YtkehcalakofigaaGreatDoor.a1
namespace Go.Proofs.YtkehcalakofigaaGreatDoor.a1
variable [Lay]
open Go Go.RowKit
section
variable {P:Program} {an:Nat} {ops:Array Oper} {call:c9}
inductive lW {α β:Type} (R:α→β→Prop):List α→List β→Prop
 | nil:lW R [] []
 | cons {a:α} {b:β} {Er:List α} {Es:List β} (h:R a b) (t:lW R Er Es):lW R (a::Er) (b::Es)
def rX (ops:Array Oper) (t:Nat) (listed:Array Bool):Option Nat:=(Region.ready .any ops listed)[t % (Region.ready .any ops listed).length]?
theorem go_succ (fuel t:Nat) (listed:Array Bool):Region.linearise.go .any ops (fuel+1) t listed []=match rX ops t listed with
 | some i=>i::Region.linearise.go .any ops fuel (t / (Region.ready .any ops listed).length) (listed.setIfInBounds i true) []
 | none=>[]:=by
 simp only [Region.linearise.go]
 change (match (Region.ready .any ops listed)[t % (Region.ready .any ops listed).length]? with
  | some i=>Region.linearise.go .any ops fuel (t / (Region.ready .any ops listed).length) (listed.setIfInBounds i true) [i]
  | none=>[].reverse)=_
 unfold rX
 cases (Region.ready .any ops listed)[t % (Region.ready .any ops listed).length]? with
 | none=>rfl
 | some i=>
   simp only
   rw [linearise_go_acc,List.reverse_singleton,List.singleton_append]
theorem LX {t:Nat} {listed:Array Bool} (h:rX ops t listed=none):Region.ready .any ops listed=[]:=by
 unfold rX at h
 cases aG:Region.ready .any ops listed with
 | nil=>rfl
 | cons x xs=>
   rw [aG] at h
   have aN:t % (x::xs).length < (x::xs).length:=Nat.mod_lt _ (by simp)
   rw [List.getElem?_eq_getElem aN] at h
   cases h
theorem Fg {t i:Nat} {listed:Array Bool} (h:rX ops t listed=some i):i ∈ Region.ready .any ops listed:=List.mem_of_getElem? h
theorem count_set {listed:Array Bool} {i:Nat} (bZ:listed.size=ops.size) (aB:i<ops.size) (a7:¬listed.getD i false=true):
 (List.range ops.size).countP (fun k=>!(listed.setIfInBounds i true).getD k false) < (List.range ops.size).countP (fun k=>!listed.getD k false):=by
 have ai:i<listed.size:=by rw [bZ];exact aB
 refine xV (fun k=>!listed.getD k false) (fun k=>!(listed.setIfInBounds i true).getD k false) (List.range ops.size) (fun k _ aA=>?_) ⟨i,List.mem_range.2 aB,?_,?_⟩
 · simp only [Bool.not_eq_true'] at aA ⊢
   cases aF:listed.getD k false with
   | false=>rfl
   | true=>
     have:=(eC (k:=k) ai).2 (.inr aF)
     rw [aA] at this
     cases this
 · cases aF:listed.getD i false with
   | false=>rfl
   | true=>exact absurd aF a7
 · have:=(eC (k:=i) ai).2 (.inl rfl)
   simp [this]
theorem IE (gG:∀i o,ops[i]? =some o→jY i o=true):∀(fuel t:Nat) (listed:Array Bool),listed.size=ops.size→(List.range ops.size).countP (fun i=>!listed.getD i false)≤fuel→
 (Region.linearise.go .any ops fuel t listed []).Nodup∧(∀k ∈ Region.linearise.go .any ops fuel t listed [],k<ops.size∧¬listed.getD k false=true)∧
  ∀k,k<ops.size→listed.getD k false=true∨k ∈ Region.linearise.go .any ops fuel t listed []
 | 0,t,listed,bZ,ar=>by
   have e:Region.linearise.go .any ops 0 t listed []=[]:=rfl
   rw [e]
   refine ⟨List.nodup_nil,fun k aA=>by simp at aA,fun k aA=>.inl ?_⟩
   have bb:(List.range ops.size).countP (fun i=>!listed.getD i false)=0:=by omega
   rw [List.countP_eq_zero] at bb
   simpa using bb k (List.mem_range.2 aA)
 | fuel+1,t,listed,bZ,ar=>by
   rw [go_succ]
   cases aG:rX ops t listed with
   | none=>
     simp only
     exact ⟨List.nodup_nil,fun k aA=>by simp at aA,fun k aA=>.inl (t' gG bZ (LX aG) k aA)⟩
   | some i=>
     simp only
     obtain ⟨i1,i2⟩:=rY bZ (Fg aG)
     have ai:i<listed.size:=by rw [bZ];exact i1
     have:=count_set bZ i1 i2
     obtain ⟨g1,g2,g3⟩:=IE gG fuel (t / (Region.ready .any ops listed).length) (listed.setIfInBounds i true) (by simp [bZ]) (by omega)
     refine ⟨List.nodup_cons.2 ⟨fun hm=>(g2 i hm).2 ((eC ai).2 (.inl rfl)),g1⟩,fun k aA=>?_,fun k aA=>?_⟩
     · rcases List.mem_cons.1 aA with rfl | aA
       · exact ⟨i1,i2⟩
       · exact ⟨(g2 k aA).1,fun h=>(g2 k aA).2 ((eC ai).2 (.inr h))⟩
     · rcases g3 k aA with h | h
       · rcases (eC ai).1 h with rfl | h
         · exact .inr (by simp)
         · exact .inl h
       · exact .inr (by simp [h])
theorem Af {o:Oper} {os:List Oper} {r:bo} {h:ae} {es:List dS} {cv:bo} {ax:ae} (he:(ez P an ops (o::os)).run call r h=.ok es cv ax):
 ∃v U fM,(b8 P an ops o).run call r h=.val v U∧(ez P an ops os).run call ((eA o.dst).run r v) U=.ok fM cv ax∧es=⟨r,h,v⟩::fM:=by
 simp only [ez,wT] at he
 cases U:(b8 P an ops o).run call r h with
 | fail=>rw [U] at he;cases he
 | cb _ _=>rw [U] at he;simp only at he;cases hm:js o.op<;>rw [hm] at he<;>cases he
 | val v a6=>
   rw [U] at he
   simp only at he
   cases ad:(ez P an ops os).run call ((eA o.dst).run r v) a6 with
   | fail=>rw [ad] at he;cases he
   | cb _ _ _ _ _=>rw [ad] at he;cases he
   | ok fM bt aI=>
     rw [ad] at he
     simp only [mP.ok.injEq] at he
     obtain ⟨rfl,rfl,rfl⟩:=he
     exact ⟨v,a6,fM,rfl,ad,rfl⟩
theorem Ag {o:Oper} {os:List Oper} {r:bo} {h U:ae} {v:V} {fM:List dS} {cv:bo} {ax:ae} (bb:(b8 P an ops o).run call r h=.val v U) (ad:(ez P an ops os).run call ((eA o.dst).run r v) U=.ok fM cv ax):
 (ez P an ops (o::os)).run call r h=.ok (⟨r,h,v⟩::fM) cv ax:=by
 simp only [ez,wT,bb,ad]
theorem FE:∀(e7 hr:List Oper) {r:bo} {h:ae} {es:List dS} {cv:bo} {ax:ae},(ez P an ops (e7++hr)).run call r h=.ok es cv ax→
 ∃fM bt U mZ,(ez P an ops e7).run call r h=.ok fM bt U∧(ez P an ops hr).run call bt U=.ok mZ cv ax∧es=fM++mZ
 | [],hr,r,h,es,cv,ax,he=>⟨[],r,h,es,rfl,he,rfl⟩
 | o::os,hr,r,h,es,cv,ax,he=>by
   obtain ⟨v,U,fM,aj,ay,rfl⟩:=Af he
   obtain ⟨Cu,bt,aI,mZ,g1,g2,rfl⟩:=FE os hr ay
   exact ⟨⟨r,h,v⟩::Cu,bt,aI,mZ,Ag aj g1,g2,rfl⟩
theorem FF:∀(e7 hr:List Oper) {r bt cv:bo} {h U ax:ae} {fM mZ:List dS},(ez P an ops e7).run call r h=.ok fM bt U→(ez P an ops hr).run call bt U=.ok mZ cv ax→
 (ez P an ops (e7++hr)).run call r h=.ok (fM++mZ) cv ax
 | [],hr,r,bt,cv,h,U,ax,fM,mZ,he,ad=>by
   simp only [ez,mP.ok.injEq] at he
   obtain ⟨rfl,rfl,rfl⟩:=he
   exact ad
 | o::os,hr,r,bt,cv,h,U,ax,fM,mZ,he,ad=>by
   obtain ⟨v,aI,Cu,aj,ay,rfl⟩:=Af he
   exact Ag aj (FF os hr ay ad)
theorem wy:∀(a b:List Nat),fF ops (a++b)=fF ops a++fF ops b
 | [],b=>rfl
 | x::xs,b=>by simp [fF,wy xs b]
theorem LU:∀(l:List Oper),(∀o ∈ l,dU P o.op=false∧looks o.op=false)→∀{r cv:bo} {h ax:ae} {es:List dS},(ez P an ops l).run call r h=.ok es cv ax→
 ax=h∧∀H:ae,∃l7,(ez P an ops l).run call r H=.ok l7 cv H
 | [],_,r,cv,h,ax,es,he=>by
   simp only [ez,mP.ok.injEq] at he
   obtain ⟨rfl,rfl,rfl⟩:=he
   exact ⟨rfl,fun H=>⟨[],rfl⟩⟩
 | o::os,aF,r,cv,h,ax,es,he=>by
   obtain ⟨v,U,fM,aj,ay,rfl⟩:=Af he
   obtain ⟨aE,aM⟩:=aF o (by simp)
   obtain ⟨d1,d2⟩:=qN aE aj
   subst d1
   obtain ⟨g1,g2⟩:=LU os (fun bU fO=>aF bU (by simp [fO])) ay
   refine ⟨g1,fun H=>?_⟩
   obtain ⟨l7,g3⟩:=g2 H
   exact ⟨_,Ag (d2 aM H) g3⟩
theorem vR {o:Oper} {A:sf} (h:jj o=some A):o.op=.insert A.t A.m A.k A.x∧o.dst=none∧o.guard=none:=by
 unfold jj at h
 split at h
 case h_2=>cases h
 rename_i t m k x aP
 split at h
 case h_2=>cases h
 rename_i aV
 split at h
 case h_2=>cases h
 rename_i aD
 cases h
 exact ⟨aP,aV,aD⟩
theorem LO {e:c6} {k v:V} {c:Nat}:∀{es:List bX},(∀m ∈ es,e.run k m.k=some false)→kB e k v c es=some (es++[⟨k,v,c⟩],true)
 | [],_=>rfl
 | m::ms,h=>by
   simp only [kB,h m (by simp),cond_false,LO (es:=ms) fun cK kk=>h cK (by simp [kk]),List.cons_append]
theorem SD {o:Oper} {A:sf} (tb:vX P A.t=true) (kO:jj o=some A) {r:bo} {H1 cN:ae} {v:V} (he:(b8 P an ops o).run call r H1=.val v cN) {b:aO} (af:(bA A.m).run (cX r (bP ops o))=.map b):
 ∀(H:ae) es c,H.get b=.mp es c→(∀m ∈ es,(pT P A.t).run ((bA A.k).run (cX r (bP ops o))) m.k=some false)→
  (b8 P an ops o).run call r H=.val .bad (H.set b (.mp (es++[⟨(bA A.k).run (cX r (bP ops o)),(bA A.x).run (cX r (bP ops o)),c⟩]) (c+1))):=by
 obtain ⟨aP,aV,aD⟩:=vR kO
 obtain ⟨U,ad⟩:=h5 he
 have key:b8 P an ops o=⟨g_ none (eg P o) (bP ops o)⟩:=by
  unfold b8
  rw [show (ei an o.dst&&ir (bP ops o))=true from by rw [U,ad];rfl,aD]
  rfl
 rw [key] at he ⊢
 simp only [g_] at he ⊢
 have q3:∀H,(eg P o).run call (cX r (bP ops o)) H=fV .bad ((lU P A.t).run H (.map b) ((bA A.k).run (cX r (bP ops o))) ((bA A.x).run (cX r (bP ops o)))):=by
  intro H
  unfold eg
  rw [aP]
  simp only [af]
 rw [q3] at he
 have VZ:lU P A.t=⟨nI (pT P A.t)⟩:=by
  cases aQ:(lU P A.t).run H1 (.map b) ((bA A.k).run (cX r (bP ops o))) ((bA A.x).run (cX r (bP ops o))) with
  | none=>rw [aQ] at he;cases he
  | some aI=>
    unfold lU at aQ ⊢
    unfold pT
    cases aC:aX P A.t with
    | none=>rw [aC] at aQ;cases aQ
    | some aL=>
      rw [aC] at aQ
      simp only at aQ ⊢
      cases bD:aL.a_<;>rw [bD] at aQ<;>simp only at aQ ⊢<;>try (cases aQ;done)
      rename_i b4 h6
      cases kT:aX P b4 with
      | none=>rw [kT] at aQ;cases aQ
      | some fR=>
        rw [kT] at aQ
        simp only at aQ ⊢
        cases ax:kY fR.a_ with
        | false=>
          unfold vX at tb
          rw [aC] at tb
          simp only [bD,kT,ax] at tb
          cases tb
        | true=>rfl
 intro H es c iF aA
 rw [q3,VZ]
 simp only [nI,iF,bV.iT,LO aA,fV,cond_true]
theorem Ws {o:Oper} {r:bo} {b:aO} {m:bX} (h:pR ops r b o=some m):∃A,jj o=some A∧(bA A.m).run (cX r (bP ops o))=.map b∧m.k=(bA A.k).run (cX r (bP ops o))∧m.v=(bA A.x).run (cX r (bP ops o)):=by
 unfold pR at h
 cases bm:jj o with
 | none=>rw [bm] at h;cases h
 | some A=>
   rw [bm] at h
   simp only at h
   cases hm:(bA A.m).run (cX r (bP ops o))<;>rw [hm] at h<;>simp only at h<;>try (cases h;done)
   obtain ⟨ar,U⟩:=dF h
   have:=aO.jD ar
   subst this
   cases U
   exact ⟨A,rfl,hm,rfl,rfl⟩
def iw (ops:Array Oper) (r:bo) (b:aO) (i:Nat) (m:bX):Prop:=∃o,ops[i]? =some o∧pR ops r b o=some m
theorem iw.Ce {r:bo} {b:aO} {i:Nat} {m cK:bX} (h:iw ops r b i m) (aa:iw ops r b i cK):m=cK:=by
 obtain ⟨o,U,ad⟩:=h
 obtain ⟨bU,aI,br⟩:=aa
 rw [U] at aI;cases aI
 rw [ad] at br;cases br
 rfl
theorem yZ {r:bo} {b:aO}:∀{is:List Nat} {ms:List bX},rF ops r b is=some ms→lW (iw ops r b) is ms
 | [],ms,h=>by simp only [rF,Option.some.injEq] at h;subst h;exact .nil
 | i::is,ms,h=>by
   simp only [rF] at h
   cases aP:ops[i]? with
   | none=>rw [aP] at h;cases h
   | some o=>
     rw [aP] at h
     simp only at h
     cases hm:pR ops r b o with
     | none=>rw [hm] at h;cases h
     | some m=>
       rw [hm] at h
       simp only at h
       cases aQ:rF ops r b is with
       | none=>rw [aQ] at h;cases h
       | some ad'=>
         rw [aQ] at h
         simp only [Option.some.injEq] at h
         subst h
         exact .cons ⟨o,aP,hm⟩ (yZ aQ)
theorem Ka {x:Option Bool} (h:isFalse x=true):x=some false:=by
 cases x with
 | none=>cases h
 | some b=>cases b<;>simp_all [isFalse]
theorem A1 {e:c6} {m:bX}:∀{ms:List bX},xy e m ms=true→∀cK ∈ ms,e.run m.k cK.k=some false∧e.run cK.k m.k=some false
 | [],_,cK,h=>by simp at h
 | x::xs,h,cK,hm=>by
   simp only [xy,Bool.and_eq_true] at h
   rcases List.mem_cons.1 hm with rfl | hm
   · exact ⟨Ka h.1,Ka h.2.1⟩
   · exact A1 h.2.2 cK hm
theorem Gy {r:bo} {b:aO} {e:c6}:∀{is:List Nat} {ms:List bX},lW (iw ops r b) is ms→is.Nodup→uM e ms=true→∀i j m cK,i ∈ is→j ∈ is→i≠j→iw ops r b i m→iw ops r b j cK→e.run m.k cK.k=some false
 | _,_,.nil,_,_,i,_,_,_,aB,_,_,_,_=>by simp at aB
 | _,_,.cons (a:=x) (b:=dt) (Er:=xs) (Es:=Zm) bb aC,a7,bm,i,j,m,cK,aB,bH,nh,hm,kk=>by
   simp only [uM,Bool.and_eq_true] at bm
   rw [List.nodup_cons] at a7
   have J2:∀k n,k ∈ xs→iw ops r b k n→n ∈ Zm:=by
    intro k n aA U8
    have gen:∀{is:List Nat} {ms:List bX},lW (iw ops r b) is ms→k ∈ is→n ∈ ms:=by
     intro is ms ax
     induction ax with
     | nil=>intro aA;simp at aA
     | cons U _ bh=>
       intro aA
       rcases List.mem_cons.1 aA with rfl | aA
       · rw [U8.Ce U];simp
       · exact List.mem_cons_of_mem _ (bh aA)
    exact gen aC aA
   rcases List.mem_cons.1 aB with Jd | aB
   · rcases List.mem_cons.1 bH with Dh | bH
     · exact absurd (Jd.trans Dh.symm) nh
     · rw [Jd] at hm
       rw [hm.Ce bb]
       exact (A1 bm.1 cK (J2 j cK bH kk)).1
   · rcases List.mem_cons.1 bH with Dh | bH
     · rw [Dh] at kk
       rw [kk.Ce bb]
       exact (A1 bm.1 m (J2 i m aB hm)).2
     · exact Gy aC a7.2 bm.2 i j m cK aB bH nh hm kk
theorem Eb {hg:bo} {b:aO} {e:c6} {I:List Nat} (oj:∀i ∈ I,∃o A m,ops[i]? =some o∧jj o=some A∧(vX P A.t=true∧pT P A.t=e)∧pR ops hg b o=some m∧∃v H1 cN,(b8 P an ops o).run call hg H1=.val v cN)
 (ys:∀i j m cK,i ∈ I→j ∈ I→i≠j→iw ops hg b i m→iw ops hg b j cK→e.run m.k cK.k=some false):
 ∀(τ:List Nat) (done:List Nat) (ds:List bX) (c:Nat) (H:ae),(∀i ∈ τ,i ∈ I)→(∀i ∈ done,i ∈ I)→(done++τ).Nodup→(∀m ∈ ds,∃i ∈ done,∃cK,iw ops hg b i cK∧m.k=cK.k)→H.get b=.mp ds c→
  ∃es ms fz iZ,(ez P an ops (fF ops τ)).run call hg H=.ok es hg iZ∧iZ.get b=.mp (ds++ms) fz∧(∀k,b≠k→iZ.get k=H.get k)∧(∀k,iZ.set b k=H.set b k)∧(∀e ∈ es,∀k,b≠k→e.h.get k=H.get k)∧
   lW (fun i (m:bX)=>∃cK,iw ops hg b i cK∧m.k=cK.k∧m.v=cK.v) τ ms
 | [],done,ds,c,H,_,_,_,_,iF=>⟨[],[],c,H,rfl,by rw [List.append_nil];exact iF,fun _ _=>rfl,fun _=>rfl,fun e he=>by simp at he,.nil⟩
 | i::τ,done,ds,c,H,yU,I5,lz,pE,iF=>by
   obtain ⟨o,A,m,aP,kO,⟨tb,rf⟩,hm,v,H1,cN,cu⟩:=oj i (yU i (by simp))
   obtain ⟨hP,IS,af,aA,ao⟩:=Ws hm
   rw [kO] at IS;cases IS
   have nj:i ∉ done:=fun h=>by
    rw [List.nodup_append] at lz
    exact lz.2.2 i h i (by simp) rfl
   have gb:=SD tb kO cu af H ds c iF (fun cK kk=>by
    obtain ⟨j,bH,Zi,UO,U7⟩:=pE cK kk
    rw [U7,rf,←aA]
    exact ys i j m Zi (yU i (by simp)) (I5 j bH) (fun e=>nj (e ▸ bH)) ⟨o,aP,hm⟩ UO)
   obtain ⟨_,aV,_⟩:=vR kO
   obtain ⟨es,ms,fz,iZ,g1,g2,g3,g4,g6,g5⟩:=Eb oj ys τ (done++[i]) (ds++[⟨(bA A.k).run (cX hg (bP ops o)),(bA A.x).run (cX hg (bP ops o)),c⟩]) (c+1)
    (H.set b (.mp (ds++[⟨(bA A.k).run (cX hg (bP ops o)),(bA A.x).run (cX hg (bP ops o)),c⟩]) (c+1))) (fun j bH=>yU j (by simp [bH]))
    (fun j bH=>by
      rcases List.mem_append.1 bH with h | h
      · exact I5 j h
      · simp only [List.mem_singleton] at h;subst h;exact yU j (by simp)) (by simpa using lz)
    (fun cK kk=>by
      rcases List.mem_append.1 kk with h | h
      · obtain ⟨j,bH,r⟩:=pE cK h
        exact ⟨j,by simp [bH],r⟩
      · simp only [List.mem_singleton] at h;subst h
        exact ⟨i,by simp,m,⟨o,aP,hm⟩,aA.symm⟩) (by rw [ae.dG,if_pos rfl])
   have JI:=Ag (os:=fF ops τ) gb (by rw [aV];exact g1)
   rw [show o::fF ops τ=fF ops (i::τ) from by simp [fF,aP]] at JI
   refine ⟨_,⟨(bA A.k).run (cX hg (bP ops o)),(bA A.x).run (cX hg (bP ops o)),c⟩::ms,fz,iZ,JI,by rw [g2,List.append_assoc];rfl,fun k aA=>?_,fun k=>?_,fun cQ dA k aA=>?_,.cons ⟨m,⟨o,aP,hm⟩,aA.symm,ao.symm⟩ g5⟩
   · rw [g3 k aA,ae.dG,if_neg aA]
   · rw [g4]
     unfold ae.set
     simp only [T.LQ]
   · rcases List.mem_cons.1 dA with rfl | dA
     · rfl
     · rw [g6 cQ dA k aA,ae.dG,if_neg aA]
def mR (E:Env):List (V × V)→List MapEntry→Prop
 | [],l=>l=[]
 | p::ba,l=>∃e es,l=e::es∧Rel E p.1 e.key∧Rel E p.2 e.val∧mR E ba es
theorem mR.perm {E:Env} {ba hM:List (V × V)} (h:ba.Perm hM):∀{l:List MapEntry},mR E hM l→∃dZ,mR E ba dZ∧dZ.Perm l:=by
 induction h with
 | nil=>intro l h;exact ⟨l,h,.refl _⟩
 | cons x _ bh=>
   intro l h
   obtain ⟨e,es,rfl,U,ad,aI⟩:=h
   obtain ⟨dZ,g1,g2⟩:=bh aI
   exact ⟨e::dZ,⟨e,dZ,rfl,U,ad,g1⟩,g2.cons e⟩
 | swap x y iv=>
   intro l h
   obtain ⟨e,es,rfl,U,ad,cQ,l7,rfl,aI,br,cp⟩:=h
   exact ⟨cQ::e::l7,⟨cQ,_,rfl,aI,br,e,l7,rfl,U,ad,cp⟩,List.Perm.swap _ _ _⟩
 | trans _ _ D8 D9=>
   intro l h
   obtain ⟨e7,g1,g2⟩:=D9 h
   obtain ⟨hr,g3,g4⟩:=D8 g1
   exact ⟨hr,g3,g4.trans g2⟩
theorem mR.K8 {E:Env}:∀{ms:List bX} {l:List MapEntry},dp E ms l→mR E (ms.map fun m=>(m.k,m.v)) l
 | [],l,h=>h
 | m::ms,l,h=>by
   obtain ⟨e,es,rfl,U,ad,_,br⟩:=h
   exact ⟨e,es,rfl,U,ad,mR.K8 br⟩
theorem iA.K9 {E:Env}:∀{ms:List bX} {l:List MapEntry},mR E (ms.map fun m=>(m.k,m.v)) l→iA E ms l
 | [],l,h=>h
 | m::ms,l,h=>by
   obtain ⟨e,es,rfl,U,ad,br⟩:=h
   exact ⟨e,es,rfl,U,ad,iA.K9 br⟩
theorem aW.forget {aw:Fr} {E:Env} {h:ae} {w:World} (s:aW aw E h w) {b:aO} {p:gY} {es ms:List bX} {c:Nat} (aD:h.get b=.mp es c) (ah:E b=some p) (fi:(ms.map fun m=>(m.k,m.v)).Perm (es.map fun m=>(m.k,m.v))):
 aW aw E (h.set b (.gf ms)) w:=by
 have af:=s.at ah
 rw [aD] at af
 obtain ⟨p',a,ft,cI,a6,hm⟩:=af
 rw [ah] at ft;cases ft
 obtain ⟨l,g1,g2⟩:=mR.perm fi (mR.K8 hm)
 exact s.set (by rw [aD];rfl) ah cI (Nat.le_refl _) (fun _ _=>rfl) rfl rfl rfl (fun _ _ _ e=>by cases e) ⟨p,a,c,l,ah,cI,a6,iA.K9 g1,g2⟩
theorem J9:∀(l:List Oper),(∀o ∈ l,o.dst=none)→∀{r cv:bo} {h ax:ae} {es:List dS},(ez P an ops l).run call r h=.ok es cv ax→∀o ∈ l,∃v H1 cN,(b8 P an ops o).run call r H1=.val v cN
 | [],_,_,_,_,_,_,_,o,aP=>by simp at aP
 | x::xs,aV,r,cv,h,ax,es,he,o,aP=>by
   obtain ⟨v,U,fM,aj,ay,rfl⟩:=Af he
   rcases List.mem_cons.1 aP with rfl | aP
   · exact ⟨v,h,U,aj⟩
   · rw [aV x (by simp)] at ay
     exact J9 xs (fun bU fO=>aV bU (by simp [fO])) ay o aP
theorem Y4 {t:TypeId} {H H1:ae} {c:aO} {off:Nat} (h:H.get c=H1.get c):(mC P t).run H (.ptr c off)=(mC P t).run H1 (.ptr c off):=by
 unfold mC
 cases aX P t with
 | none=>rfl
 | some aL=>
   simp only
   cases aL.agg with
   | true=>simp only [cond_true,kr,V.ht,h]
   | false=>
     simp only [cond_false]
     cases Nat.beq aL.size 1 with
     | true=>simp only [cond_true,ks,V.ht,h]
     | false=>rfl
theorem SF {o:Oper} {t:TypeId} {x:Operand} (aP:o.op=.load t x) (aD:o.guard=none) {r:bo} {H1 aa:ae} {v:V} (he:(b8 P an ops o).run call r H1=.val v aa) {c:aO} {off:Nat} (ao:(bA x).run (cX r (bP ops o))=.ptr c off)
 (H:ae) (iF:H.get c=H1.get c):(b8 P an ops o).run call r H=.val v H:=by
 obtain ⟨U,ad⟩:=h5 he
 have key:b8 P an ops o=⟨g_ none (eg P o) (bP ops o)⟩:=by
  unfold b8
  rw [show (ei an o.dst&&ir (bP ops o))=true from by rw [U,ad];rfl,aD]
  rfl
 rw [key] at he ⊢
 simp only [g_] at he ⊢
 have q3:∀H,(eg P o).run call (cX r (bP ops o)) H=aT.of H ((mC P t).run H (.ptr c off)):=by
  intro H
  unfold eg
  rw [aP]
  simp only [ao]
 rw [q3] at he ⊢
 rw [Y4 iF]
 exact aT.rP he H
theorem KH {es:List dS} {h:ae} {b:aO}:∀{is:List Nat} {p:Nat},wc P ops es h b call an is p=true→∀q i o t x,is[q]? =some i→ops[i]? =some o→o.op=.load t x→
 ∃e c off aa,es[p+q]? =some e∧(bA x).run (cX e.r (bP ops o))=.ptr c off∧c≠b∧o.guard=none∧(b8 P an ops o).run call e.r h=.val e.v aa
 | [],_,_,q,i,o,t,x,h,_,_=>by simp at h
 | j::WB,p,ai,q,i,o,t,x,aF,aP,jO=>by
   simp only [wc] at ai
   cases q with
   | succ q=>
     cases bH:ops[j]? with
     | none=>rw [bH] at ai;cases ai
     | some aeg=>
       rw [bH] at ai
       simp only [Bool.and_eq_true] at ai
       have:=KH ai.2 q i o t x (by simpa using aF) aP jO
       rw [show p + (q+1)=p+1+q from by omega]
       exact this
   | zero=>
     simp only [List.getElem?_cons_zero,Option.some.injEq] at aF
     subst aF
     rw [aP] at ai
     simp only [Bool.and_eq_true] at ai
     have U:=ai.1
     rw [jO] at U
     simp only at U
     rw [Nat.add_zero]
     cases he:es[p]? with
     | none=>rw [he] at U;cases U
     | some e=>
       rw [he] at U
       simp only at U
       cases ao:(bA x).run (cX e.r (bP ops o))<;>rw [ao] at U<;>simp only at U<;>try (cases U;done)
       rename_i c off
       simp only [Bool.and_eq_true,Bool.not_eq_true'] at U
       cases aD:o.guard with
       | some _=>rw [aD] at U;cases U.2
       | none=>
         rw [aD] at U
         simp only at U
         have ad:=U.2
         cases aG:(b8 P an ops o).run call e.r h with
         | fail=>rw [aG] at ad;cases ad
         | cb _ _=>rw [aG] at ad;cases ad
         | val v aa=>
           rw [aG] at ad
           have bx:=Ct ad
           exact ⟨e,c,off,aa,rfl,ao,(fun e=>by rw [e,aO.u'] at U;cases U.1),rfl,by rw [aG,bx]⟩
theorem tA {k:Nat}:∀{l:List Nat} {p:Nat},l.Nodup→l[p]? =some k→l.idxOf k=p
 | [],_,_,h=>by simp at h
 | x::xs,p,a7,h=>by
   rw [List.nodup_cons] at a7
   cases p with
   | zero=>
     simp only [List.getElem?_cons_zero,Option.some.injEq] at h
     subst h
     simp
   | succ p=>
     have ao:xs[p]? =some k:=by simpa using h
     have c8:x≠k:=fun e=>a7.1 (e ▸ List.mem_of_getElem? ao)
     rw [List.idxOf_cons]
     simp only [beq_iff_eq,c8,cond_false,show (x == k)=false from by simpa using c8]
     rw [tA a7.2 ao]
def jT (ops:Array Oper) (i:Nat):Bool:=
 match ops[i]? with
 | some o=>iL o
 | none=>false
theorem y0 {o:Oper} {A:sf} (h:jj o=some A):iL o=true∧dU P o.op=true∧fb o=false:=by
 obtain ⟨aP,_,_⟩:=vR h
 refine ⟨by unfold iL;rw [aP],by rw [aP];rfl,by unfold fb;rw [aP]⟩
theorem YZ {az:List Nat} {cg da:Nat} {t:TypeId} (ax:wb P ops az cg da t=true):∀i o,ops[i]? =some o→∃ch,(dM [] ops.toList)[i]? =some ch∧jY i o=true∧
 (∀k ok,ops[k]? =some ok→∃mk,(dM [] ops.toList)[k]? =some mk∧lM i ch (bP ops o) o.dst k mk ok (Nat.blt (posOf az k) (posOf az i))=true)∧
 (posOf az i<cg→iL o=false∧dr P o=false∧(looks o.op=true→dU P o.op=false→∃t x,o.op=.load t x))∧
 (¬posOf az i<cg→posOf az i<da→∃A,jj o=some A∧A.t=t)∧
 (¬posOf az i<cg→¬posOf az i<da→dU P o.op=false∧looks o.op=false):=by
 unfold wb at ax
 simp only [Bool.and_eq_true] at ax
 replace ax:=ax.2
 intro i o aB
 obtain ⟨ch,U,ad⟩:=mN ax i o (by simpa using aB)
 simp only [Nat.zero_add,Bool.and_eq_true] at ad
 obtain ⟨⟨aI,br⟩,cp⟩:=ad
 refine ⟨ch,U,aI,fun k ok aA=>?_,fun aN=>?_,fun hE aN=>?_,fun hE UT=>?_⟩
 · obtain ⟨mk,b_,cA⟩:=mN br k ok (by simpa using aA)
   simp only [Nat.zero_add] at cA
   exact ⟨mk,b_,cA⟩
 · rw [show Nat.blt (posOf az i) cg=true from by rw [Nat.blt_eq];exact aN] at cp
   simp only [cond_true,Bool.and_eq_true,Bool.not_eq_true',Bool.or_eq_true] at cp
   refine ⟨cp.1.1,cp.1.2,fun ai he=>?_⟩
   rcases cp.2 with (h | h) | h
   · rw [ai] at h;cases h
   · rw [he] at h;cases h
   · cases jO:o.op<;>rw [jO] at h<;>simp only at h<;>first
      | (cases h;done)
      | exact ⟨_,_,rfl⟩
 · rw [show Nat.blt (posOf az i) cg=false from by rw [←Bool.not_eq_true,Nat.blt_eq];exact hE,show Nat.blt (posOf az i) da=true from by rw [Nat.blt_eq];exact aN] at cp
   simp only [cond_true,cond_false] at cp
   cases bm:jj o with
   | none=>rw [bm] at cp;cases cp
   | some A=>rw [bm] at cp;exact ⟨A,rfl,Nat.eq_of_beq_eq_true cp⟩
 · rw [show Nat.blt (posOf az i) cg=false from by rw [←Bool.not_eq_true,Nat.blt_eq];exact hE,show Nat.blt (posOf az i) da=false from by rw [←Bool.not_eq_true,Nat.blt_eq];exact UT] at cp
   simp only [cond_false,Bool.and_eq_true,Bool.not_eq_true'] at cp
   exact cp
theorem Y0 {order:List Nat} {es:List dS} {cg:Nat} {b:aO} {hg:bo} {A:sf} (h:zb ops order es cg=some (b,hg,A)):
 ∃e i o,es[cg]? =some e∧order[cg]? =some i∧ops[i]? =some o∧jj o=some A∧e.r=hg:=by
 unfold zb at h
 cases he:es[cg]? with
 | none=>rw [he] at h;cases h
 | some e=>
   rw [he] at h
   simp only at h
   cases aB:order[cg]? with
   | none=>rw [aB] at h;cases h
   | some i=>
     rw [aB] at h
     simp only at h
     cases aP:ops[i]? with
     | none=>rw [aP] at h;cases h
     | some o=>
       rw [aP] at h
       simp only at h
       cases bm:jj o with
       | none=>rw [bm] at h;cases h
       | some hP=>
         rw [bm] at h
         simp only at h
         cases hm:(bA hP.m).run (cX e.r (bP ops o))<;>rw [hm] at h<;>simp only at h<;>try (cases h;done)
         simp only [Option.some.injEq,Prod.mk.injEq] at h
         obtain ⟨_,ad,rfl⟩:=h
         exact ⟨e,i,o,rfl,rfl,aP,bm,ad⟩
theorem KO {r:bo} {b:aO} {f:Nat→V × V} (ax:∀i m,iw ops r b i m→f i=(m.k,m.v)):∀{is:List Nat} {ms:List bX},lW (fun i (m:bX)=>∃cK,iw ops r b i cK∧m.k=cK.k∧m.v=cK.v) is ms→ms.map (fun m=>(m.k,m.v))=is.map f
 | _,_,.nil=>rfl
 | _,_,.cons (a:=i) (b:=m) bb aC=>by
   obtain ⟨cK,U,ad,aI⟩:=bb
   simp only [List.map_cons,KO ax aC,ax i cK U,ad,aI]
theorem tW {n:Nat} {order az:List Nat} (fi:jv n order az=true) {p i:Nat} (h:order[p]? =some i):posOf az i=p∧i<n:=by
 unfold jv at fi
 simp only [Bool.and_eq_true,Nat.beq_eq] at fi
 obtain ⟨_,ad,_,br⟩:=fi
 have:=p8 br h
 rw [Nat.zero_add] at this
 refine ⟨by unfold posOf;rw [this];rfl,?_⟩
 have:=(List.getElem?_eq_some_iff.1 this).1
 omega
theorem ZA {l:List Nat} {f:Nat→Nat} (h:∀p i,l[p]? =some i→f i=p):l.Nodup:=by
 rw [List.Nodup,List.pairwise_iff_getElem]
 intro i j aB bH nh he
 have U:=h i _ (List.getElem?_eq_getElem aB)
 have ad:=h j _ (List.getElem?_eq_getElem bH)
 rw [he,ad] at U
 omega
theorem lW.left {α β:Type} {R:α→β→Prop}:∀{e7:List α} {hr:List β},lW R e7 hr→∀x ∈ e7,∃y ∈ hr,R x y
 | _,_,.nil,x,h=>by simp at h
 | _,_,.cons bb aC,x,h=>by
   rcases List.mem_cons.1 h with rfl | h
   · exact ⟨_,by simp,bb⟩
   · obtain ⟨y,U,ad⟩:=aC.left x h
     exact ⟨y,by simp [U],ad⟩
theorem Wy {o:Oper} (h:iL o=true):dU P o.op=true∧fb o=false:=by
 unfold iL at h
 unfold fb
 cases aP:o.op<;>rw [aP] at h<;>simp only at h<;>first
  | (cases h;done)
  | exact ⟨rfl,rfl⟩
theorem acq {pre σ post:List Nat} (lz:(pre++(σ++post)).Nodup) (k q:Nat):(pre[q]? =some k→(pre++(σ++post)).idxOf k=q)∧(σ[q]? =some k→(pre++(σ++post)).idxOf k=pre.length+q)∧(post[q]? =some k→(pre++(σ++post)).idxOf k=pre.length+σ.length+q):=by
 refine ⟨fun h=>tA lz ?_,fun h=>tA lz ?_,fun h=>tA lz ?_⟩
 · have:=(List.getElem?_eq_some_iff.1 h).1
   rw [List.getElem?_append_left this]
   exact h
 · have:=(List.getElem?_eq_some_iff.1 h).1
   rw [List.getElem?_append_right (by omega),Nat.add_sub_cancel_left,List.getElem?_append_left this]
   exact h
 · rw [List.getElem?_append_right (by omega),List.getElem?_append_right (by omega)]
   rw [show pre.length+σ.length+q-pre.length-σ.length=q from by omega]
   exact h
theorem Y1 {rd:Option Nat} {D:List Deferred} {aw:Fr} {calls:Nat→c9} {es:List dS} {bp:bo} {bb:ae} {cv:bo} {ax:ae} {dD order az:List Nat} (bw:dJ P) (cm:∀i,ff P (calls i)) (cZ:∀i,fm P (calls i))
 (C:Cert P an ops calls es bp bb cv ax dD order az ops.size ops.size true) {gj:Env} {Q:Exit→Act→World→Prop}
 (cS:∀av bf al,gj.le av→RegRel0 av an cv bf→bf.defers=D→aW aw av ax al→Q .normal bf al) {su:List Nat}
 (fr:∀i k,jT ops i=true→jT ops k=true→posOf az k<posOf az i→∀a b,su=a++i::b→k ∈ a):
 ∀(fuel t:Nat) (listed:Array Bool) (done:List Nat) (a:Act) (w:World),su=done++Region.linearise.go .any ops fuel t listed []→(∀k,k<ops.size→(listed.getD k false=true↔k ∈ done))→
  (List.range ops.size).countP (fun i=>!listed.getD i false)≤fuel→mO P aw an ops es bp ax dD az gj ops.size D listed a w→wpOpsIn (bS rd) 0 P ops Q (Region.linearise.go .any ops fuel t listed []) a w:=by
 have gG:∀i o,ops[i]? =some o→jY i o=true:=fun i o h=>by obtain ⟨_,_,ad,_⟩:=C.ke i o h;exact ad
 have fin:∀(listed:Array Bool) (a:Act) (w:World),(∀k,k<ops.size→listed.getD k false=true)→mO P aw an ops es bp ax dD az gj ops.size D listed a w→Q .normal a w:=by
  intro listed a w cU I
  obtain ⟨av,g1,g2,g3,g4⟩:=HM C (Nat.le_refl _) I fun k aA _=>cU k aA
  exact cS av a w g1 g2 g3 g4
 intro fuel
 induction fuel with
 | zero=>
   intro t listed done a w om Dn ar I
   have bb:(List.range ops.size).countP (fun i=>!listed.getD i false)=0:=by omega
   rw [List.countP_eq_zero] at bb
   exact fin listed a w (fun k aA=>by simpa using bb k (List.mem_range.2 aA)) I
 | succ fuel bh=>
   intro t listed done a w om Dn ar I
   rw [go_succ] at om ⊢
   cases aG:rX ops t listed with
   | none=>exact fin listed a w (fun k aA=>t' gG I.oK (LX aG) k aA) I
   | some i=>
     rw [aG] at om
     simp only at om ⊢
     obtain ⟨i1,i2⟩:=rY I.oK (Fg aG)
     have ai:i<listed.size:=by rw [I.oK];exact i1
     have adM:=count_set I.oK i1 i2
     rw [wpOpsIn_cons]
     refine HV bw cm cZ C I (Fg aG) (C.gy i i1).1 (fun _ o k ok b3 re yF U6 aN=>?_) (fun bf al AD=>bh _ _ (done++[i]) bf al (by rw [List.append_assoc];exact om) (fun k aA=>?_) (by omega) AD) (fun _ _ _ _ _ _ _ h=>absurd h (Nat.lt_irrefl _))
     · have aA:k<ops.size:=(Array.getElem?_eq_some_iff.1 yF).1
       exact (Dn k aA).2 (fr i k (by unfold jT;rw [b3];exact re) (by unfold jT;rw [yF];exact U6) aN _ _ om)
     · rw [eC ai,Dn k aA,List.mem_append,List.mem_singleton]
       exact Or.comm
noncomputable def Co (ops:Array Oper) (r:bo) (b:aO) (i:Nat):V × V:=
 match ops[i]? with
 | some o=>(match pR ops r b o with
   | some m=>(m.k,m.v)
   | none=>(.bad,.bad))
 | none=>(.bad,.bad)
theorem H3 {r:bo} {b:aO} {i:Nat} {m:bX} (h:iw ops r b i m):Co ops r b i=(m.k,m.v):=by
 obtain ⟨o,U,ad⟩:=h
 unfold Co
 rw [U]
 simp only [ad]
theorem KP {r:bo} {b:aO}:∀{is:List Nat} {ms:List bX},lW (iw ops r b) is ms→ms.map (fun m=>(m.k,m.v))=is.map (Co ops r b)
 | _,_,.nil=>rfl
 | _,_,.cons bb aC=>by
   simp only [List.map_cons,KP aC,H3 bb]
set_option maxHeartbeats 1000000 in
theorem Y2 {rd:Option Nat} {aw:Fr} {E:Env} {h:ae} {w:World} {id:Nat} (cR:P.follows .mixedOrders=true) (bw:dJ P) (cm:ff P call) (cZ:fm P call) {r:bo} {a:Act} {order az:List Nat} {cg da:Nat} (fi:jv ops.size order az=true)
 {Q:Exit→Act→World→Prop} (ah:kJ aw E an (Q .normal) Q (Ep P an ops order az cg da (ez P an ops (fF ops order)) call r h)) (k:ep E an r a) (s:aW aw E h w):(Code.region id ops true).wpIn (bS rd) 0 P Q a w:=by
 unfold Ep at ah
 cases cu:(ez P an ops (fF ops order)).run call r h with
 | fail=>rw [cu] at ah;exact ah.elim
 | cb _ _ _ _ _=>rw [cu] at ah;exact ah.elim
 | ok es en a6=>
 rw [cu] at ah
 simp only at ah
 cases mj:zb ops order es cg with
 | none=>rw [mj] at ah;exact ah.elim
 | some x=>
 obtain ⟨b,hg,A⟩:=x
 rw [mj] at ah
 simp only at ah
 cases iH:(bW es a6 cg).get b<;>rw [iH] at ah<;>try (exact False.elim ah)
 rename_i SY xP
 cases SY with
 | cons _ _=>exact False.elim ah
 | nil=>
 simp only at ah
 cases te:rF ops hg b ((order.drop cg).take (da-cg)) with
 | none=>rw [te] at ah;exact ah.elim
 | some ms=>
 rw [te] at ah
 simp only at ah
 cases ar:(wb P ops az cg da A.t&&(uM (pT P A.t) ms&&(wc P ops es (bW es a6 cg) b call an (order.take cg) 0&&va ((bA A.m).run en) (.map b)))) with
 | false=>rw [ar] at ah;exact ah.elim
 | true=>
 rw [ar] at ah
 simp only [cond_true] at ah
 simp only [Bool.and_eq_true] at ar
 obtain ⟨yG,ys,dL,ox⟩:=ar
 have ox:=Ct ox
 obtain ⟨lA,Lz,aej⟩:=Lu fi
 have Dz:order.Nodup:=ZA fun p i h=>(tW fi h).1
 obtain ⟨cC,i0,gR,C2,ra,Vr,vf,UP⟩:=Y0 mj
 obtain ⟨aaI,-,-,-⟩:=qj cu
 have hlen:es.length=ops.size:=by rw [aaI,mD,lA]
 have hb:cg<ops.size:=by rw [←lA];exact (List.getElem?_eq_some_iff.1 ra).1
 have ke:=YZ yG
 generalize nk:order.take cg=pre at dL
 generalize re:(order.drop cg).take (da-cg)=ins at te
 generalize Jz:(order.drop cg).drop (da-cg)=post
 have mm:order=pre++(ins++post):=by rw [←nk,←re,←Jz,List.take_append_drop,List.take_append_drop]
 have ti:pre.length=cg:=by rw [←nk,List.length_take];omega
 have adT:cg<da:=by
  obtain ⟨rn,_⟩:=tW fi ra
  rcases Nat.lt_or_ge cg da with h | h
  · exact h
  · exfalso
    obtain ⟨_,_,_,_,_,_,f3⟩:=ke i0 gR Vr
    obtain ⟨ao,_⟩:=f3 (by omega) (by omega)
    rw [(y0 (P:=P) vf).2.1] at ao
    cases ao
 have U4:ins.length=da-cg∨post=[]:=by
  rcases Nat.lt_or_ge (da-cg) (order.drop cg).length with h | h
  · left;rw [←re,List.length_take];omega
  · right;rw [←Jz];exact List.drop_eq_nil_of_le h
 have A':∀q i,pre[q]? =some i→posOf az i=q∧i<ops.size∧q<cg:=by
  intro q i h
  have aF:=(List.getElem?_eq_some_iff.1 h).1
  obtain ⟨U,ad⟩:=tW fi (p:=q) (i:=i) (by rw [mm,List.getElem?_append_left aF];exact h)
  exact ⟨U,ad,by omega⟩
 have A8:∀q i,ins[q]? =some i→posOf az i=cg+q∧i<ops.size∧cg+q<da:=by
  intro q i h
  have aF:=(List.getElem?_eq_some_iff.1 h).1
  obtain ⟨U,ad⟩:=tW fi (p:=cg+q) (i:=i) (by
   rw [mm,List.getElem?_append_right (by omega),ti,Nat.add_sub_cancel_left,List.getElem?_append_left aF];exact h)
  refine ⟨U,ad,?_⟩
  have:ins.length≤da-cg:=by rw [←re,List.length_take];omega
  omega
 have A9:∀q i,post[q]? =some i→posOf az i=cg+ins.length+q∧i<ops.size∧ins.length=da-cg:=by
  intro q i h
  have ai:ins.length=da-cg:=by
   rcases U4 with aa | aa
   · exact aa
   · rw [aa] at h;simp at h
  obtain ⟨U,ad⟩:=tW fi (p:=cg+ins.length+q) (i:=i) (by
   rw [mm,List.getElem?_append_right (by omega),List.getElem?_append_right (by omega),ti,show cg+ins.length+q-cg-ins.length=q from by omega];exact h)
  exact ⟨U,ad,ai⟩
 have M4:∀i,i<ops.size→(∃q:Nat,pre[q]? =some i)∨(∃q:Nat,ins[q]? =some i)∨∃q:Nat,post[q]? =some i:=by
  intro i aB
  have hm:i ∈ order:=List.mem_of_getElem? (Lz i aB).2
  rw [mm,List.mem_append,List.mem_append] at hm
  rcases hm with h | h | h
  · exact .inl (List.mem_iff_getElem?.1 h)
  · exact .inr (.inl (List.mem_iff_getElem?.1 h))
  · exact .inr (.inr (List.mem_iff_getElem?.1 h))
 have E6:∀i o,i ∈ pre→ops[i]? =some o→iL o=false∧dr P o=false∧(looks o.op=true→dU P o.op=false→∃t x,o.op=.load t x):=by
  intro i o aB aP
  obtain ⟨q,aF⟩:=List.mem_iff_getElem?.1 aB
  obtain ⟨U,ad,aI⟩:=A' q i aF
  obtain ⟨_,_,_,_,f1,_,_⟩:=ke i o aP
  exact f1 (by omega)
 have vS:∀i,i ∈ ins→∃o hP,ops[i]? =some o∧jj o=some hP∧hP.t=A.t:=by
  intro i aB
  obtain ⟨q,aF⟩:=List.mem_iff_getElem?.1 aB
  obtain ⟨U,ad,aI⟩:=A8 q i aF
  obtain ⟨_,_,_,_,_,f2,_⟩:=ke i _ (Array.getElem?_eq_getElem ad)
  obtain ⟨hP,g1,g2⟩:=f2 (by omega) (by omega)
  exact ⟨_,hP,Array.getElem?_eq_getElem ad,g1,g2⟩
 have wI:∀i o,i ∈ post→ops[i]? =some o→dU P o.op=false∧looks o.op=false:=by
  intro i o aB aP
  obtain ⟨q,aF⟩:=List.mem_iff_getElem?.1 aB
  obtain ⟨U,ad,aI⟩:=A9 q i aF
  obtain ⟨_,_,_,_,_,_,f3⟩:=ke i o aP
  exact f3 (by omega) (by omega)
 have D_:∀i,i<ops.size→(jT ops i=true↔i ∈ ins):=by
  intro i aB
  have b3:ops[i]? =some ops[i]:=Array.getElem?_eq_getElem aB
  constructor
  · intro h
    unfold jT at h
    rw [b3] at h
    simp only at h
    rcases M4 i aB with ⟨q,aF⟩ | ⟨q,aF⟩ | ⟨q,aF⟩
    · rw [(E6 i _ (List.mem_of_getElem? aF) b3).1] at h;cases h
    · exact List.mem_of_getElem? aF
    · have:=(wI i _ (List.mem_of_getElem? aF) b3).1
      rw [(Wy (P:=P) h).1] at this
      cases this
  · intro h
    obtain ⟨o,hP,g1,g2,_⟩:=vS i h
    unfold jT
    rw [g1]
    exact (y0 (P:=P) g2).1
 have DA:ins.Nodup:=by
  rw [mm] at Dz
  exact (List.nodup_append.1 (List.nodup_append.1 Dz).2.1).1
 have vH:=cu
 rw [mm,wy,wy] at vH
 obtain ⟨fM,bt,U,SZ,oB,JB,lx⟩:=FE _ _ vH
 obtain ⟨mZ,cW,ad,Cu,jh,VC,adN⟩:=FE _ _ JB
 obtain ⟨e7,-,-,-⟩:=qj oB
 rw [mD,ti] at e7
 obtain ⟨-,bM,bI,-⟩:=qj JB
 have I7:SZ[0]? =some cC:=by
  rw [lx,List.getElem?_append_right (by omega),e7,Nat.sub_self] at C2
  exact C2
 have VE:bt=hg:=by
  unfold dw at bI
  rw [I7] at bI
  exact bI.symm.trans UP
 have UZ:bW es a6 cg=U:=by
  unfold bW at bM ⊢
  rw [C2]
  rw [I7] at bM
  exact bM
 subst VE
 rw [UZ] at iH dL
 have oj:∀i ∈ ins,∃o hP m,ops[i]? =some o∧jj o=some hP∧(vX P hP.t=true∧pT P hP.t=pT P A.t)∧pR ops bt b o=some m∧∃v H1 cN,(b8 P an ops o).run call bt H1=.val v cN:=by
  intro i aB
  obtain ⟨o,hP,g1,g2,g3⟩:=vS i aB
  obtain ⟨m,_,bU,g4,g5⟩:=(yZ te).left i aB
  rw [g1] at g4;cases g4
  refine ⟨o,hP,m,g1,g2,⟨by rw [g3];unfold wb at yG;rw [Bool.and_eq_true] at yG;exact yG.1,by rw [g3]⟩,g5,J9 (fF ops ins) (fun cG tf=>?_) jh o ?_⟩
  · obtain ⟨q,aF⟩:=List.mem_iff_getElem?.1 tf
    have pK:q<ins.length:=by rw [←mD (ops:=ops)];exact (List.getElem?_eq_some_iff.1 aF).1
    obtain ⟨aec,w1,vV,rG,_⟩:=vS _ (List.getElem_mem pK)
    have:=kv (List.getElem?_eq_getElem pK) vV
    rw [aF] at this;cases this
    exact (vR rG).2.1
  · obtain ⟨q,aF⟩:=List.mem_iff_getElem?.1 aB
    exact List.mem_of_getElem? (kv aF g1)
 have yt:=Gy (yZ te) DA ys
 obtain ⟨ady,ad_,adr,j3,CC,adD,adE,Tv,_,adF⟩:=Eb oj yt ins [] [] xP U (fun i aB=>aB) (fun i aB=>by simp at aB) (by simpa using DA) (fun m hm=>by simp at hm) iH
 rw [jh] at CC
 simp only [mP.ok.injEq] at CC
 obtain ⟨-,VB,Ud⟩:=CC
 subst VB Ud
 obtain ⟨Df,VA⟩:=LU (fF ops post) (fun cG tf=>by
  obtain ⟨q,aF⟩:=List.mem_iff_getElem?.1 tf
  have pK:q<post.length:=by rw [←mD (ops:=ops)];exact (List.getElem?_eq_some_iff.1 aF).1
  obtain ⟨_,Je,_⟩:=A9 q _ (List.getElem?_eq_getElem pK)
  have:=kv (List.getElem?_eq_getElem pK) (Array.getElem?_eq_getElem Je)
  rw [aF] at this;cases this
  exact wI _ _ (List.getElem_mem pK) (Array.getElem?_eq_getElem Je)) VC
 subst Df
 refine wpIn_region_draw fun t=>?_
 simp only [Region.schedule,cR,Bool.true_or,if_true]
 have gG:∀i o,ops[i]? =some o→jY i o=true:=fun i o h=>by obtain ⟨_,_,ad,_⟩:=ke i o h;exact ad
 have cV:∀k,¬(Array.replicate ops.size false).getD k false=true:=by
  intro k
  rw [pw,Array.getElem?_replicate]
  split<;>simp
 obtain ⟨s1,s2,qf⟩:=IE (ops:=ops) gG ops.size t (Array.replicate ops.size false) (by simp) (Nat.le_trans List.countP_le_length (by simp))
 change wpOpsIn (bS rd) 0 P ops Q (Region.linearise.go .any ops ops.size t (Array.replicate ops.size false) []) a {w with drawn:=w.drawn+1}
 generalize om:Region.linearise.go .any ops ops.size t (Array.replicate ops.size false) []=su at s1 s2 qf
 generalize D7:su.filter (jT ops)=σ
 have Ey:∀k,k ∈ σ↔k ∈ ins:=by
  intro k
  rw [←D7,List.mem_filter]
  constructor
  · rintro ⟨g1,g2⟩
    exact (D_ k (s2 k g1).1).1 g2
  · intro g
    obtain ⟨q,aF⟩:=List.mem_iff_getElem?.1 g
    have aA:=(A8 q k aF).2.1
    refine ⟨?_,(D_ k aA).2 g⟩
    rcases qf k aA with h | h
    · exact absurd h (cV k)
    · exact h
 have Jt:σ.Nodup:=by rw [←D7];exact s1.filter _
 have DJ:σ.Perm ins:=(List.perm_ext_iff_of_nodup Jt DA).2 Ey
 have JV:σ.length=ins.length:=DJ.length_eq
 have jg:(pre++(σ++post)).Perm order:=by
  rw [mm]
  exact (DJ.append_right post).append_left pre
 have DB:(pre++(σ++post)).Nodup:=jg.nodup_iff.2 Dz
 have vt:(pre++(σ++post)).length=ops.size:=by rw [jg.length_eq,lA]
 have xD:=acq DB
 generalize Vw:(List.range ops.size).map (fun k=>(pre++(σ++post)).idxOf k)=ik
 have th:∀k,k<ops.size→posOf ik k=(pre++(σ++post)).idxOf k:=by
  intro k aA
  rw [←Vw]
  unfold posOf
  rw [List.getElem?_map,List.getElem?_range aA]
  rfl
 have wD:∀i,i<ops.size→i ∈ pre→posOf ik i=posOf az i∧posOf az i<cg:=by
  intro i aB hm
  obtain ⟨q,aF⟩:=List.mem_iff_getElem?.1 hm
  obtain ⟨g1,_,g3⟩:=A' q i aF
  rw [th i aB,(xD i q).1 aF,g1]
  exact ⟨rfl,g3⟩
 have wC:∀i,i<ops.size→i ∈ ins→∃q:Nat,σ[q]? =some i∧posOf ik i=cg+q∧q<ins.length∧cg≤posOf az i∧posOf az i<cg+ins.length:=by
  intro i aB hm
  obtain ⟨q,aF⟩:=List.mem_iff_getElem?.1 ((Ey i).2 hm)
  obtain ⟨dK,mq⟩:=List.mem_iff_getElem?.1 hm
  obtain ⟨g1,_,g3⟩:=A8 dK i mq
  have:=(List.getElem?_eq_some_iff.1 aF).1
  have:=(List.getElem?_eq_some_iff.1 mq).1
  exact ⟨q,aF,by rw [th i aB,(xD i q).2.1 aF,ti],by omega,by omega,by omega⟩
 have EZ:∀i,i<ops.size→i ∈ post→posOf ik i=posOf az i∧cg+ins.length≤posOf az i:=by
  intro i aB hm
  obtain ⟨q,aF⟩:=List.mem_iff_getElem?.1 hm
  obtain ⟨g1,_,_⟩:=A9 q i aF
  rw [th i aB,(xD i q).2.2 aF,g1,JV,ti]
  exact ⟨rfl,by omega⟩
 have cls:∀i,i<ops.size→i ∈ pre∨i ∈ ins∨i ∈ post:=by
  intro i aB
  rcases M4 i aB with ⟨q,aF⟩ | ⟨q,aF⟩ | ⟨q,aF⟩
  · exact .inl (List.mem_of_getElem? aF)
  · exact .inr (.inl (List.mem_of_getElem? aF))
  · exact .inr (.inr (List.mem_of_getElem? aF))
 obtain ⟨qT,aea,B7,uB,Iy,Tw,Tx,Ty,TA,Tz⟩:=Eb oj yt σ [] [] xP U (fun i aB=>(Ey i).1 aB) (fun i aB=>by simp at aB) (by simpa using Jt) (fun m hm=>by simp at hm) iH
 obtain ⟨sO,VD⟩:=VA uB
 have JF:=FF _ _ oB (FF _ _ Iy VD)
 rw [←wy,←wy] at JF
 obtain ⟨Yv,-,-,-⟩:=qj Iy
 rw [mD,JV] at Yv
 obtain ⟨cd,z2,z3,z4⟩:=qj JF
 rw [mD,vt] at cd
 have LA:∀k,k<ops.size→posOf ik k<ops.size∧(pre++(σ++post))[posOf ik k]? =some k:=by
  intro k aA
  have hm:k ∈ pre++(σ++post):=jg.mem_iff.2 (List.mem_of_getElem? (Lz k aA).2)
  obtain ⟨q,aF⟩:=List.mem_iff_getElem?.1 hm
  have DK:=tA DB aF
  rw [th k aA,DK]
  have:=(List.getElem?_eq_some_iff.1 aF).1
  exact ⟨by omega,aF⟩
 have aal:∀p,p<ops.size→∃i,i<ops.size∧posOf ik i=p:=by
  intro p ah
  have aF:(pre++(σ++post))[p]? =some ((pre++(σ++post))[p]'(by omega)):=List.getElem?_eq_getElem _
  have hm:(pre++(σ++post))[p]'(by omega) ∈ order:=jg.mem_iff.1 (List.getElem_mem _)
  obtain ⟨q,tj⟩:=List.mem_iff_getElem?.1 hm
  have aN:=(tW fi tj).2
  exact ⟨_,aN,by rw [th _ aN];exact tA DB aF⟩
 have Hs:∀j o,ops[j]? =some o→dr P o=true→j ∈ ins:=by
  intro j o aP jI
  rcases cls j (Array.getElem?_eq_some_iff.1 aP).1 with h | h | h
  · rw [(E6 j o h aP).2.1] at jI;cases jI
  · exact h
  · unfold dr at jI
    rw [(wI j o h aP).1] at jI
    cases jI
 have Ea:∀k ok,k ∈ ins→ops[k]? =some ok→ok.dst=none∧iL ok=true:=by
  intro k ok aA bg
  obtain ⟨o,hP,g1,g2,_⟩:=vS k aA
  rw [bg] at g1;cases g1
  exact ⟨(vR g2).2.1,(y0 (P:=P) g2).1⟩
 have OB:∀st,st=ops.size∨(∃k,k<ops.size∧k ∈ ins∧st=posOf ik k)→∀c,b≠c→(bW (fM++(qT++sO)) uB st).get c=U.get c:=by
  rintro st (rfl | ⟨k,aA,fa,rfl⟩) c ar
  · unfold bW
    rw [List.getElem?_eq_none (by omega)]
    exact Tx c ar
  · obtain ⟨q,_,g2,g3,_⟩:=wC k aA fa
    have DL:q<qT.length:=by omega
    unfold bW
    rw [g2,List.getElem?_append_right (by omega),e7,Nat.add_sub_cancel_left,List.getElem?_append_left DL,List.getElem?_eq_getElem DL]
    exact TA _ (List.getElem_mem DL) c ar
 have C:Cert P an ops (fun _=>call) (fM++(qT++sO)) r h en uB (fT P ik 0 ops.toList) (pre++(σ++post)) ik ops.size ops.size true:=by
  refine ⟨cd,Nat.le_refl _,Nat.le_refl _,LA,aal,z2,z3,?_,?_,?_,?_,?_,?_,fun h=>absurd h (Nat.lt_irrefl _),fun h=>absurd h (Nat.lt_irrefl _)⟩
  · intro i o aP _
    exact z4 _ o (kv (LA i (Array.getElem?_eq_some_iff.1 aP).1).2 aP)
  · intro i o b3
    obtain ⟨ch,f1,f2,f3,_⟩:=ke i o b3
    refine ⟨ch,f1,f2,fun _ k ok bg _=>?_⟩
    obtain ⟨mk,f4,f5⟩:=f3 k ok bg
    have aB:i<ops.size:=(Array.getElem?_eq_some_iff.1 b3).1
    have aA:k<ops.size:=(Array.getElem?_eq_some_iff.1 bg).1
    refine ⟨mk,f4,?_,fun he jI aN=>?_⟩
    · by_cases fa:k ∈ ins
      · unfold lM
        rw [(Ea k ok fa bg).1]
        simp
      · have af:Nat.blt (posOf ik k) (posOf ik i)=Nat.blt (posOf az k) (posOf az i):=by
         rw [Bool.eq_iff_iff,Nat.blt_eq,Nat.blt_eq]
         rcases cls k aA with ar | ar | ar
         · obtain ⟨bK,a2⟩:=wD k aA ar
           rcases cls i aB with aV | aV | aV
           · obtain ⟨bL,ca⟩:=wD i aB aV;omega
           · obtain ⟨q,_,ca,hS,j8,j9⟩:=wC i aB aV;omega
           · obtain ⟨bL,ca⟩:=EZ i aB aV;omega
         · exact absurd ar fa
         · obtain ⟨bK,a2⟩:=EZ k aA ar
           rcases cls i aB with aV | aV | aV
           · obtain ⟨bL,ca⟩:=wD i aB aV;omega
           · obtain ⟨q,_,ca,hS,j8,j9⟩:=wC i aB aV;omega
           · obtain ⟨bL,ca⟩:=EZ i aB aV;omega
        rw [af]
        exact f5
    · have fa:=Hs k ok bg jI
      obtain ⟨ael,_,ca,hS,j8,j9⟩:=wC k aA fa
      rcases cls i aB with aV | aV | aV
      · obtain ⟨bK,a2⟩:=wD i aB aV;omega
      · exact .inr ⟨rfl,(Ea i o aV b3).2,(Ea k ok fa bg).2⟩
      · rw [(wI i o aV b3).1] at he;cases he
  · have:=y_ (P:=P) (az:=ik) (l:=ops.toList) (i:=0)
    simpa using this
  · intro j o g1 g2
    have:=tE (P:=P) (az:=ik) (i:=0) (j:=j) (l:=ops.toList) (o:=o) (by simpa using g1) g2
    simpa using this
  · intro st cf
    rcases pX cf with h | ⟨j,o,g1,g2,g3⟩
    · exact .inl (.inl (by simpa using h))
    · exact .inr ⟨j,o,by simpa using g1,g2,by simpa using g3⟩
  · intro j o ni ai he _
    have bH:j<ops.size:=(Array.getElem?_eq_some_iff.1 ni).1
    have kS:j ∈ pre:=by
     rcases cls j bH with aV | aV | aV
     · exact aV
     · obtain ⟨bU,hP,g1,g2,_⟩:=vS j aV
       rw [ni] at g1;cases g1
       rw [(y0 (P:=P) g2).2.1] at he;cases he
     · rw [(wI j o aV ni).2] at ai;cases ai
    obtain ⟨r5,M9,jO⟩:=(E6 j o kS ni).2.2 ai he
    obtain ⟨q,aF⟩:=List.mem_iff_getElem?.1 kS
    obtain ⟨bK,_,a3⟩:=A' q j aF
    obtain ⟨e,c,off,aa,ed,gL,y3,y4,F1⟩:=KH dL q j o r5 M9 aF ni jO
    have UM:(fM++(qT++sO))[posOf ik j]? =some e:=by
     rw [(wD j bH kS).1,bK,List.getElem?_append_left (by omega)]
     rw [Nat.zero_add,lx,List.getElem?_append_left (by omega)] at ed
     exact ed
    refine ⟨e,UM,fun st cf _=>⟨call,_,⟨cm,cZ⟩,SF jO y4 F1 gL _ (OB st ?_ c fun h=>y3 h.symm)⟩⟩
    rcases pX cf with h | ⟨bl,bU,g1,g2,g3⟩
    · exact .inl (by simpa using h)
    · have yK:ops[bl]? =some bU:=by simpa using g1
      exact .inr ⟨bl,(Array.getElem?_eq_some_iff.1 yK).1,Hs bl bU yK g2,by simpa using g3⟩
 have jc:∀(av:Env) (bf:Act),E.le av→bf.defers=a.defers→∀(bn:bo),T.get .bad dT bn=T.get .bad dT r→iY av (T.get .bad dT bn) bf.defers:=fun av bf he aV bn oA=>by rw [oA,aV];exact k.defers.mono he
 have yx:T.get .bad dT en=T.get .bad dT r:=by
  have:=C.Ck ops.size (Nat.le_refl _)
  have DC:(fM++(qT++sO))[ops.size]? =none:=List.getElem?_eq_none (by omega)
  unfold dw at this
  rw [DC] at this
  exact this
 have hV:Holds aw aw (fM++(qT++sO)) uB ik (hQ ops (fM++(qT++sO)) uB ik (Array.replicate ops.size false) 0):=
  ⟨rfl,fun _ _=>rfl,fun k aA=>(by obtain ⟨_,_,_,_,bb⟩:=aA;omega),fun k bl aA=>(by obtain ⟨_,_,_,_,bb⟩:=aA;omega)⟩
 obtain ⟨fG,dn,g1,g2,g3,g4,g5,g6⟩:=C.advance ops.size 0 (by omega) (fun k o _ _ _=>cV k) aw hV (E:=E) (w:={w with drawn:=w.drawn}) (by rw [C.bb];exact s.same rfl rfl rfl rfl)
 rw [←om]
 refine Y1 (aw:=aw) bw (fun _=>cm) (fun _=>cZ) C (gj:=E) (D:=a.defers) (su:=su) (fun av bf al aj ay aK bE=>?_) (fun i k aB aA aN bf bz Un=>?_) ops.size t _ [] a _ (by rw [om];rfl) (fun k _=>⟨fun h=>absurd h (cV k),fun h=>by simp at h⟩) (Nat.le_trans List.countP_le_length (by simp)) ?_
 · refine ah av bf al aj ⟨ay,jc av bf aj aK en yx⟩ ?_
   have hX:=c_ ay A.m
   rw [ox] at hX
   simp only [Rel] at hX
   obtain ⟨p,Uc,_⟩:=hX
   rw [Tv,←Ty]
   refine bE.forget Tw Uc ?_
   rw [List.nil_append,KP (yZ te),KO (fun i m h=>H3 h) Tz]
   exact DJ.symm.map _
 · have kR:i<ops.size:=by
    unfold jT at aB
    cases aP:ops[i]? with
    | none=>rw [aP] at aB;cases aB
    | some o=>exact (Array.getElem?_eq_some_iff.1 aP).1
   have Jf:k<ops.size:=by
    unfold jT at aA
    cases aP:ops[k]? with
    | none=>rw [aP] at aA;cases aA
    | some o=>exact (Array.getElem?_eq_some_iff.1 aP).1
   have fa:=(D_ k Jf).1 aA
   have JU:σ=bf.filter (jT ops)++i::bz.filter (jT ops):=by rw [←D7,Un,List.filter_append,List.filter_cons_of_pos aB]
   have hG:posOf ik i=cg + (bf.filter (jT ops)).length:=by
    rw [th i kR,(xD i (bf.filter (jT ops)).length).2.1 (by rw [JU,List.getElem?_append_right (Nat.le_refl _),Nat.sub_self];rfl),ti]
   obtain ⟨q,aF,yM,_⟩:=wC k Jf fa
   have pK:q < (bf.filter (jT ops)).length:=by omega
   rw [JU,List.getElem?_append_left pK] at aF
   exact (List.mem_filter.1 (List.mem_of_getElem? aF)).1
 · refine ⟨by simp,k.size,rfl,fun bl aA=>absurd aA (cV bl),fun bl o e aA=>absurd aA (cV bl),E,fG,dn,Env.le.refl E,g1,g3,fun bl o U ad=>⟨fun h=>absurd h (cV bl),fun h=>by have:=g4 bl o U ad (Nat.zero_le _);omega⟩,
    fun bl o _ _ h=>absurd h (cV bl),g5,?_,fun t aC=>.inr ⟨fun bl o aA=>absurd aA (cV bl),k.aq t aC⟩⟩
   exact g6.same rfl rfl rfl rfl
theorem SI {rd:Option Nat} {aw:Fr} {E:Env} {h:ae} {w:World} {id:Nat} (cR:P.follows .mixedOrders=true) (bw:dJ P) (cm:ff P call) (cZ:fm P call) {r:bo} {a:Act}
 {Q:Exit→Act→World→Prop} (ah:kJ aw E an (Q .normal) Q ((Ch P an ops).run call r h)) (k:ep E an r a) (s:aW aw E h w):(Code.region id ops true).wpIn (bS rd) 0 P Q a w:=by
 unfold Ch at ah
 generalize wA P ops=order at ah
 generalize zE order 0 ops.toList=az at ah
 unfold HT at ah
 cases ax:(jv ops.size order az&&sI P ops az) with
 | false=>
   rw [ax] at ah
   simp only [cond_false] at ah
   cases hn:(jv ops.size order az&&wU P ops order az) with
   | false=>
     rw [hn] at ah
     simp only [cond_false] at ah
     cases C8:jv ops.size order az with
     | false=>rw [C8] at ah;exact ah.elim
     | true=>
       rw [C8] at ah
       simp only [cond_true] at ah
       exact Y2 cR bw cm cZ C8 ah k s
   | true=>
     rw [hn] at ah
     simp only [cond_true] at ah
     simp only [Bool.and_eq_true] at hn
     exact SJ cR bw cm cZ hn.1 hn.2 ah k s
 | true=>
   rw [ax] at ah
   simp only [cond_true] at ah
   simp only [Bool.and_eq_true] at ax
   obtain ⟨fi,fB⟩:=ax
   unfold jv at fi
   simp only [Bool.and_eq_true,Nat.beq_eq] at fi
   obtain ⟨lA,tf,vw,vx⟩:=fi
   have gy:∀k,k<ops.size→posOf az k<ops.size∧order[posOf az k]? =some k:=by
    intro k aA
    have aD:az[k]? =some (posOf az k):=by
     unfold posOf
     rw [List.getElem?_eq_getElem (by omega)]
     rfl
    have:=p8 vw aD
    rw [Nat.zero_add] at this
    exact ⟨by have:=(List.getElem?_eq_some_iff.1 this).1;omega,this⟩
   have iU:∀p,p<ops.size→∃i,i<ops.size∧posOf az i=p:=by
    intro p ah
    have aD:order[p]? =some (order[p]'(by omega)):=List.getElem?_eq_getElem (by omega)
    have:=p8 vx aD
    rw [Nat.zero_add] at this
    refine ⟨order[p]'(by omega),by have:=(List.getElem?_eq_some_iff.1 this).1;omega,?_⟩
    unfold posOf
    rw [this]
    rfl
   have FD:∀j o,ops[j]? =some o→dr P o=true→posOf az j ∈ fT P az 0 ops.toList:=fun j o U ad=>by simpa using tE (az:=az) (i:=0) (j:=j) (l:=ops.toList) (by simpa using U) ad
   have ab0:ops.size ∈ fT P az 0 ops.toList:=by simpa using y_ (P:=P) (az:=az) (l:=ops.toList) (i:=0)
   have MA:∀N M,∀s ∈ fT P az 0 ops.toList,(s=ops.size∨(s=N∧M=N))∨∃k o,ops[k]? =some o∧dr P o=true∧s=posOf az k:=fun N M s aQ=>by
    rcases pX aQ with h | ⟨j,o,U,ad,aI⟩
    · exact .inl (.inl (by simpa using h))
    · exact .inr ⟨j,o,by simpa using U,ad,by simpa using aI⟩
   have I':∀i o,ops[i]? =some o→∃ch,(dM [] ops.toList)[i]? =some ch∧jY i o=true∧(posOf az i<ops.size→
    ∀k ok,ops[k]? =some ok→posOf az k<ops.size→∃mk,(dM [] ops.toList)[k]? =some mk∧lM i ch (bP ops o) o.dst k mk ok (Nat.blt (posOf az k) (posOf az i))=true∧(dU P o.op=true→dr P ok=true→posOf az k<posOf az i→eJ ch k=true∨(false=true∧iL o=true∧iL ok=true))):=by
    intro i o aB
    obtain ⟨ch,g1,g2,g3⟩:=HS fB i o aB
    exact ⟨ch,g1,g2,fun _ k ok aA _=>by
     obtain ⟨mk,ed,gL,y3⟩:=g3 k ok aA
     exact ⟨mk,ed,gL,fun a b c=>.inl (y3 a b c)⟩⟩
   have main:∀(q:w3),
    (∀es ly N,es.length=N→N≤ops.size→(∀i o,ops[i]? =some o→posOf az i<N→∃e,es[posOf az i]? =some e∧(b8 P an ops o).run call e.r e.h=.val e.v (bW es ly (posOf az i+1)))→
      (N<ops.size→∃i0 gR,ops[i0]? =some gR∧posOf az i0=N∧dr P gR=true)→q.run call es ly=true→∀j o,ops[j]? =some o→looks o.op=true→dU P o.op=false→posOf az j<N→∃e,es[posOf az j]? =some e∧∀s ∈ fT P az 0 ops.toList,
      oN P (dM [] ops.toList) ops.toList az j (((dM [] ops.toList)[j]?).getD 0) s=true→∃aa,(b8 P an ops o).run call e.r (bW es ly s)=.val e.v aa)→
    kJ aw E an (Q .normal) Q (xZ ops order az (ez P an ops (fF ops order)) q call r h)→(Code.region id ops true).wpIn (bS rd) 0 P Q a w:=by
    intro q pC cu
    unfold xZ at cu
    cases cf:(ez P an ops (fF ops order)).run call r h with
    | fail=>rw [cf] at cu;exact cu.elim
    | ok es en a6=>
      rw [cf] at cu
      simp only at cu
      cases aF:q.run call es a6 with
      | false=>rw [aF] at cu;exact cu.elim
      | true=>
        rw [aF] at cu
        simp only [cond_true] at cu
        obtain ⟨aj,ay,aK,bE⟩:=qj cf
        have hlen:es.length=ops.size:=by rw [aj,mD,lA]
        have gb:∀i o,ops[i]? =some o→posOf az i<ops.size→∃e,es[posOf az i]? =some e∧(b8 P an ops o).run call e.r e.h=.val e.v (bW es a6 (posOf az i+1))∧dw es en (posOf az i+1)=(eA o.dst).run e.r e.v:=
         fun i o aP _=>bE _ o (kv (gy i (Array.getElem?_eq_some_iff.1 aP).1).2 aP)
        have C:Cert P an ops (fun _=>call) es r h en a6 (fT P az 0 ops.toList) order az ops.size ops.size false:=
         ⟨hlen,Nat.le_refl _,Nat.le_refl _,gy,iU,ay,aK,gb,I',ab0,FD,MA _ _,
           fun j o U ad aI br=>by
            obtain ⟨e,g1,g2⟩:=pC es a6 _ hlen (Nat.le_refl _) (fun i o aP aB=>by obtain ⟨e,cd,z2,_⟩:=gb i o aP aB;exact ⟨e,cd,z2⟩) (fun h=>by omega) aF j o U ad aI br
            exact ⟨e,g1,fun s aQ hm=>by obtain ⟨aa,g3⟩:=g2 s aQ hm;exact ⟨_,aa,⟨cm,cZ⟩,g3⟩⟩,
           fun h=>absurd h (Nat.lt_irrefl _),fun h=>absurd h (Nat.lt_irrefl _)⟩
        exact Cj cR bw cm cZ k s C (fun _=>cu) (fun _ _ _ _ _ _ _ h=>absurd h (Nat.lt_irrefl _)) (fun h=>absurd h (Nat.lt_irrefl _))
    | cb es en a6 v aa=>
      rw [cf] at cu
      simp only at cu
      cases aF:(E0 ops order az es.length&&q.run call es a6) with
      | false=>rw [aF] at cu;exact cu.elim
      | true=>
        rw [aF] at cu
        simp only [cond_true] at cu
        simp only [Bool.and_eq_true] at aF
        obtain ⟨rp,aF⟩:=aF
        obtain ⟨ay,aK,bE,gR,dh,eW,iV⟩:=MB cf
        have aN:es.length<ops.size:=by
         have:=(List.getElem?_eq_some_iff.1 dh).1
         rw [mD,lA] at this
         exact this
        obtain ⟨i0,ra,hG⟩:=iU es.length aN
        have b3:ops[i0]? =some ops[i0]:=Array.getElem?_eq_getElem ra
        have mm:=(gy i0 ra).2
        rw [hG] at mm
        have Vp:gR=ops[i0]:=by
         have:=kv mm b3
         rw [dh] at this
         cases this
         rfl
        subst Vp
        unfold E0 at rp
        rw [mm] at rp
        simp only at rp
        obtain ⟨m0,Jm,_⟩:=mN rp i0 ops[i0] (by simp)
        have JS:∀k ok,ops[k]? =some ok→∃mk,(dM [] ops.toList)[k]? =some mk∧(es.length<posOf az k→eJ mk i0=true)∧(fb ok=true→posOf az k<es.length→eJ m0 k=true):=by
         intro k ok aA
         obtain ⟨mk,cd,z2⟩:=mN rp k ok (by simpa using aA)
         simp only [Nat.zero_add,Bool.and_eq_true] at z2
         refine ⟨mk,cd,fun aD=>?_,fun bm ai=>?_⟩
         · have:=z2.1
           rw [show Nat.blt es.length (posOf az k)=true from by rw [Nat.blt_eq];exact aD] at this
           exact this
         · have:=z2.2
           rw [bm,show Nat.blt (posOf az k) es.length=true from by rw [Nat.blt_eq];exact ai,Jm] at this
           exact this
        have s8:dr P ops[i0]=true:=by
         obtain ⟨bC,bY⟩:=KR (P:=P) eW
         unfold dr;rw [bC,bY];rfl
        have gb:∀i o,ops[i]? =some o→posOf az i<es.length→∃e,es[posOf az i]? =some e∧(b8 P an ops o).run call e.r e.h=.val e.v (bW es a6 (posOf az i+1))∧dw es en (posOf az i+1)=(eA o.dst).run e.r e.v:=
         fun i o aP ai=>bE _ o ai (kv (gy i (Array.getElem?_eq_some_iff.1 aP).1).2 aP)
        have C:Cert P an ops (fun _=>call) es r h en a6 (fT P az 0 ops.toList) order az es.length ops.size false:=
         ⟨rfl,Nat.le_of_lt aN,Nat.le_of_lt aN,gy,iU,ay,aK,gb,I',by rw [←hG];exact FD i0 _ b3 s8,FD,MA _ _,
           fun j o U ad aI br=>by
            obtain ⟨e,g1,g2⟩:=pC es a6 _ rfl (Nat.le_of_lt aN) (fun i o aP aB=>by obtain ⟨e,cd,z2,_⟩:=gb i o aP aB;exact ⟨e,cd,z2⟩) (fun _=>⟨i0,_,b3,hG,s8⟩) aF j o U ad aI br
            exact ⟨e,g1,fun s aQ hm=>by obtain ⟨aa,g3⟩:=g2 s aQ hm;exact ⟨_,aa,⟨cm,cZ⟩,g3⟩⟩,
           fun h=>absurd h (Nat.lt_irrefl _),fun _ _=>⟨i0,_,m0,b3,hG,eW,Jm,fun k ok mk aA aD Dx=>by
            obtain ⟨mk',cd,z2,_⟩:=JS k ok aA
            rw [Dx] at cd;cases cd
            exact z2 aD,fun k ok aA bm ai=>by
            obtain ⟨mk',cd,_,z3⟩:=JS k ok aA
            exact z3 bm ai,v,aa,iV⟩⟩
        refine Cj cR bw cm cZ k s C (fun h=>absurd h (by omega)) (fun av bf al x v1 U g1 _ _ g3 g4 g5 g6=>?_) (fun h=>absurd h (Nat.lt_irrefl _))
        obtain ⟨i1,cT,cd,z2,z3⟩:=g3
        have:i1=i0:=C.rT (Array.getElem?_eq_some_iff.1 cd).1 ra (by rw [z2,hG])
        subst this
        rw [b3] at cd;cases cd
        rw [iV] at z3;cases z3
        exact cu av bf al x g1 g4 g5 g6
   cases ai:nV P ops.toList with
   | false=>
     rw [ai] at ah
     have none:∀(l:List Oper),nV P l=false→∀(j:Nat) (o:Oper),l[j]? =some o→dU P o.op=false:=by
      intro l
      induction l with
      | nil=>intro _ j o h;simp at h
      | cons x l bh=>
        intro h j o aP
        simp only [nV,Bool.or_eq_false_iff] at h
        cases j with
        | zero=>simp only [List.getElem?_cons_zero,Option.some.injEq] at aP;subst aP;exact h.1
        | succ j=>exact bh h.2 j o (by simpa using aP)
     refine main _ (fun es ly N hlen hle gb JJ _ j o aP dL aF vq=>?_) ah
     have CO:N=ops.size:=by
      rcases Nat.lt_or_ge N ops.size with aN | hE
      · obtain ⟨i0,gR,cd,z2,z3⟩:=JJ aN
        have:=none _ ai i0 gR (by simpa using cd)
        unfold dr at z3
        rw [this] at z3;cases z3
      · omega
     obtain ⟨e,b1,b'⟩:=gb j o aP vq
     refine ⟨e,b1,fun s aQ _=>?_⟩
     have hp:s=ops.size:=by
      rcases pX aQ with h | ⟨y2,bU,U,ad,aI⟩
      · simpa using h
      · have:=none _ ai y2 bU U
        unfold dr at ad
        rw [this] at ad
        cases ad
     have flat:∀d,d≤ops.size→bW es ly d=bW es ly 0:=by
      intro d
      induction d with
      | zero=>intro _;rfl
      | succ d bh=>
        intro aV
        obtain ⟨i,rb,kR⟩:=iU d (by omega)
        have b3:ops[i]? =some ops[i]:=Array.getElem?_eq_getElem rb
        obtain ⟨SM,bM,bI⟩:=gb i ops[i] b3 (by omega)
        rw [kR] at bM bI
        have c8:dU P ops[i].op=false:=none _ ai i _ (by simp)
        rw [(qN c8 bI).1,←bh (by omega)]
        simp [bW,bM]
     have:e.h=bW es ly s:=by rw [hp,flat ops.size (Nat.le_refl _),←flat (posOf az j) (by omega)];simp [bW,b1]
     rw [←this]
     exact ⟨_,b'⟩
   | true=>
     rw [ai] at ah
     refine main _ (fun es ly N hlen hle gb JJ DK j o aP dL aF vq=>?_) ah
     obtain ⟨e,b1,_⟩:=gb j o aP vq
     have:=A7 DK j o (by simpa using aP) dL aF e (by simpa using b1)
     exact ⟨e,b1,by simpa using this⟩
end
end Go.Proofs.YtkehcalakofigaaGreatDoor.a1
namespace Go.Proofs.YtkehcalakofigaaGreatDoor.a1
variable [Lay]
open Go Go.RowKit
def toExit:cY→Exit
 | .normal=>.normal
 | .exit id=>.exit id
 | .ret=>.ret
def NG (C:Ctx):Prop:=
 ∀f p args h v aa,C.E7 f=some p→p.run args h=.val v aa→(∃fn,C.P.funcs[f]? =some fn∧fn.body.isSome=true)∧∀(aw:Fr) E w xs,aY E args xs→aW aw E h w→
  Calls C.P f xs.toArray w fun e al=>∃av x,e=.returned x∧E.le av∧Rel av v x∧aW aw av aa al
def Nj (C:Ctx):Prop:=
 ∀f p args h v aa,C.ext f=some p→p.run args h=.val v aa→∀(aw:Fr) E w xs,aY E args xs→aW aw E h w→
  ∃av x al,(callFunc f xs.toArray).run C.P w=.ok (.value x) al∧E.le av∧Rel av v x∧aW aw av aa al
def l0 (C:Ctx):Prop:=NG C∧Nj C
theorem nb {P:Program} {rd:Option Nat} (m:Machine):m.fenced P (bS rd):=fenced_wide P m
def Al (rd:Option Nat) (P:Program) (c:Code) (Q:Exit→Act→World→Prop) (a:Act) (w:World):Prop:=
 match c with
 | .loop x=>∀(b:Frame) (k:List Item) (cs:List Frame),b.roundOf=rd→∃e bf al,Q e bf al∧ArrivesIn (Machine.fenced P (bS rd)) P (lone (b.atR a (.code x::.inLoop x::k)) cs w) b k cs e bf al
 | c=>c.wpIn (bS rd) 0 P Q a w
theorem Al.wp {rd:Option Nat} {P:Program} {c:Code} {Q:Exit→Act→World→Prop} {a:Act} {w:World} (h:Al rd P c Q a w):c.wpIn (bS rd) 0 P Q a w:=by
 cases c with
 | loop x=>
   intro b k cs ji _ _
   obtain ⟨e,bf,al,q,r⟩:=h b k cs ji
   exact ⟨e,bf,al,q,.of_steps (.one (nb _) stepR_loop) r⟩
 | _=>exact h
def sr (aw:Fr) (E:Env) (an:Nat) (Q:Exit→Act→World→Prop):jx→Prop
 | .ok e r h=>∀av bf al,E.le av→ep av an r bf→aW aw av h al→Q (toExit e) bf al
 | .cb v r h=>∀av bf al x,E.le av→ep av an r bf→Rel av v x→aW aw av h al→Q (.panic (mF x)) bf al
 | .fail=>False
theorem sr.up {aw:Fr} {E av:Env} (h:E.le av) {an:Nat} {Q:Exit→Act→World→Prop} {x:jx} (k:sr aw E an Q x):sr aw av an Q x:=by
 cases x with
 | ok e r a6=>exact fun bN a w ad=>k bN a w (h.trans ad)
 | cb v r a6=>exact fun bN a w x ad=>k bN a w x (h.trans ad)
 | fail=>exact k
def F7 (P:Program) (an:Nat) (c:Code) (run:bo→ae→jx):Prop:=
 ∀(rd:Option Nat) (aw:Fr) r h,(rd=none∨noMark c=true)→∀E a w,ep E an r a→aW aw E h w→∀Q:Exit→Act→World→Prop,sr aw E an Q (run r h)→Al rd P c Q a w
def pb (P:Program) (ex:gk):Prop:=∀an c,F7 P an c (ex an c)
def rZ (tmps:Array Value):ResultVar→Sem Value
 | .tmp t=>pure (tmps.getD t undef)
 | .cell b t=>do loadVar t (←asAddr (tmps.getD b undef))
theorem Fj {P:Program} {aw:Fr} {E:Env} {an:Nat} {r:bo} {h:ae} {a:Act} {w:World} (k:RegRel0 E an r a) (s:aW aw E h w):∀{l:List ResultVar} {ab:List V},(il P an l).run r h=some ab→
 ∃xs,aY E ab xs∧(l.mapM (rZ a.tmps)).run P w=.ok xs w
 | [],ab,he=>by
   simp only [il,Option.some.injEq] at he
   subst he
   exact ⟨[],rfl,rfl⟩
 | .tmp t::l,ab,he=>by
   simp only [il] at he
   cases ar:(Nat.ble t top&&Nat.blt t an) with
   | false=>rw [ar] at he;cases he
   | true=>
     rw [ar] at he
     simp only [cond_true] at he
     simp only [Bool.and_eq_true,Nat.ble_eq] at ar
     cases aG:(il P an l).run r h with
     | none=>rw [aG] at he;cases he
     | some us=>
       rw [aG] at he
       simp only [Option.some.injEq] at he
       subst he
       obtain ⟨xs,U,ad⟩:=Fj k s aG
       refine ⟨_::xs,by simp only [aY];exact ⟨_,_,rfl,k.aq t ar.1,U⟩,?_⟩
       rw [List.mapM_cons,Sem.run_bind]
       simp only [rZ,Sem.run_pure,Result.andThen_ok,Sem.run_bind,ad]
 | .cell b t::l,ab,he=>by
   simp only [il] at he
   cases ar:(Nat.ble b top&&Nat.blt b an) with
   | false=>rw [ar] at he;cases he
   | true=>
     rw [ar] at he
     simp only [cond_true] at he
     simp only [Bool.and_eq_true,Nat.ble_eq] at ar
     cases bx:(mC P t).run h (T.get .bad (aH b) r) with
     | none=>rw [bx] at he;cases he
     | some v=>
       rw [bx] at he
       simp only at he
       cases aG:(il P an l).run r h with
       | none=>rw [aG] at he;cases he
       | some us=>
         rw [aG] at he
         simp only [Option.some.injEq] at he
         subst he
         obtain ⟨xs,U,ad⟩:=Fj k s aG
         obtain ⟨Y,_,cl,A,kO,er⟩:=KG (P:=P) s (k.aq b ar.1) bx
         refine ⟨Y::xs,by simp only [aY];exact ⟨_,_,rfl,cl,U⟩,?_⟩
         rw [List.mapM_cons,Sem.run_bind]
         simp only [rZ,kO,asAddr,Sem.run_bind,Sem.run_pure,Result.andThen_ok,er,ad]
theorem GG:∀(args:List V) (i:Nat) (t:bo) (j:Nat),i+args.length≤top+1→j≤top→
 T.get .bad (aH j) (j7 i args t)=if i≤j∧j<i+args.length then (args[j-i]?).getD .bad else T.get .bad (aH j) t
 | [],i,t,j,_,_=>by
   have:¬(i≤j∧j<i):=by omega
   simp [j7,this]
 | v::ab,i,t,j,h,bH=>by
   simp only [List.length_cons] at h ⊢
   rw [j7,GG ab _ _ _ (by omega) bH]
   by_cases U:i+1≤j∧j<i+1+ab.length
   · rw [if_pos U,if_pos (by omega)]
     have:j-i=(j - (i+1))+1:=by omega
     rw [this,List.getElem?_cons_succ]
   · rw [if_neg U,T.gn]
     by_cases ad:j=i
     · subst ad;rw [if_pos rfl,if_pos (by omega)];simp
     · rw [if_neg (fun e=>ad (gT e).symm),if_neg (by omega)]
theorem ZX {E:Env} {ab:List V} {xs:List Value} (h:aY E ab xs) (fn:Func) (a:Act) (P:Program) (w:World)
 (aG:(fn.results.toList.mapM (rZ a.tmps)).run P w=.ok xs w):∃x,(results fn a.tmps).run P w=.ok x w∧Rel E (oneOf ab) x:=by
 have mj:(fn.results.mapM (rZ a.tmps)).run P w=.ok xs.toArray w:=by
  rw [Array.mapM_eq_mapM_toList,Sem.run_map,aG]
  rfl
 have C0:results fn a.tmps=(do
  let ab ←fn.results.mapM (rZ a.tmps)
  pure (if h:ab.size=1 then ab[0] else .tuple ab)):=by
  unfold results
  have:(fun x=>match x with
   | ResultVar.tmp t=>(pure (a.tmps.getD t undef):Sem Value)
   | ResultVar.cell b t=>do loadVar t (←asAddr (a.tmps.getD b undef)))=rZ a.tmps:=by
   funext x
   cases x<;>rfl
  rw [←this]
  rfl
 have tk:(results fn a.tmps).run P w=.ok (if h:xs.toArray.size=1 then xs.toArray[0] else .tuple xs.toArray) w:=by
  rw [C0,Sem.run_bind,mj]
  rfl
 refine ⟨_,tk,?_⟩
 match ab,h with
 | [],h=>
   simp only [aY] at h
   subst h
   simp only [oneOf,Rel]
   exact ⟨#[],rfl,rfl⟩
 | [v],h=>
   simp only [aY] at h
   obtain ⟨y,b2,rfl,aZ,rfl⟩:=h
   simpa [oneOf] using aZ
 | v::u::ab,h=>
   have ai:=h.length
   have c8:¬xs.toArray.size=1:=by simp at ai ⊢;omega
   rw [dif_neg c8]
   simp only [oneOf,Rel]
   exact ⟨_,rfl,by simpa using h⟩
section
variable {C:Ctx}
theorem GF:∀(args:List V) (i:Nat) (t:bo),i+args.length≤top+1→T.get .bad dT (j7 i args t)=T.get .bad dT t
 | [],_,_,_=>rfl
 | v::ab,i,t,h=>by
   simp only [List.length_cons] at h
   simp only [j7]
   rw [GF ab (i+1) _ (by omega),T.gn,if_neg (rQ (by omega))]
theorem H6 {E:Env} {an:Nat} {args:List V} {xs:List Value} (ai:aY E args xs) (jb:args.length≤an) (fs:an≤top):
 ep E an (j7 0 args .e) {tmps:=xs.toArray++Array.replicate (an-xs.toArray.size) undef,defers:=[]}:=by
 have hlen:=ai.length
 refine ⟨⟨by simp;omega,fun t aC=>?_⟩,?_⟩
 · rw [GG _ _ _ _ (by omega) aC]
   by_cases aN:t<args.length
   · rw [if_pos (by omega),Nat.sub_zero,List.getElem?_eq_getElem aN]
     obtain ⟨y,aZ,cl⟩:=ai.get t args[t] (List.getElem?_eq_getElem aN)
     simp only [Option.getD_some]
     have:(xs.toArray++Array.replicate (an-xs.toArray.size) undef).getD t undef=y:=by
      rw [Array.getD_eq_getD_getElem?,Array.getElem?_append_left (by simp;omega)]
      simp [aZ]
     rw [this];exact cl
   · rw [if_neg (by omega)]
     simp [Rel]
 · rw [GF _ _ _ (by omega)]
   simp [iY]
def iz (E:Env) (u:Option V) (m:FrameMode):Prop:=
 match u with
 | none=>m=.returning
 | some v=>∃x,Rel E v x∧m=.panicking (mF x)
theorem iz.mono {E av:Env} (h:E.le av) {u:Option V} {m:FrameMode} (k:iz E u m):iz av u m:=by
 cases u with
 | none=>exact k
 | some v=>obtain ⟨x,U,ad⟩:=k;exact ⟨x,Rel.mono h _ _ U,ad⟩
theorem iz.settle {E:Env} {u:Option V} {m:FrameMode} (k:iz E u m):settle m=m:=by
 cases u with
 | none=>simp only [iz] at k;subst k;rfl
 | some v=>obtain ⟨x,U,rfl⟩:=k;rfl
theorem iz.run {E:Env} {u:Option V} {m:FrameMode} (k:iz E u m):m≠.run:=by
 cases u with
 | none=>simp only [iz] at k;subst k;simp
 | some v=>obtain ⟨x,U,rfl⟩:=k;simp
def w6 (P:Program) (h4:qt):Prop:=
 ∀f args u h fl aa,h4 f args u h=.go fl aa→(∃fn,P.funcs[f]? =some fn∧fn.body.isSome=true)∧
  ∀(aw:Fr) E w xs m,aY E args xs→iz E u m→aW aw E h w→CallsDIn (bS none) 0 P f xs.toArray m w fun e cK al=>∃av x,e=.returned x∧E.le av∧iz av fl (settle cK)∧aW aw av aa al
theorem aW.gone {aw:Fr} {E:Env} {h:ae} {w al:World} (s:aW aw E h w) {b:aO} {p:gY} (fC:(h.get b).own=true) (ah:E b=some p) (cI:aw.w.heap.size≤p.bd)
 (aN:w.heap.size≤al.heap.size) (km:∀j,j≠p.bd→al.heap[j]? =w.heap[j]?) (lB:al.os=w.os) (aC:al.tape=w.tape) (aP:al.output=w.output):aW aw E (h.set b .dead) al:=
 s.set fC ah cI aN km lB aC aP (fun _ _ _ e=>by cases e) trivial
theorem Eo {P:Program} {h4:qt} (bw:dJ P) (jc:w6 P h4) {aw:Fr} {fn:Func} {tmps:Array Value} {R:Ending→World→Prop}:∀(ab:List V) (ds:List Deferred) (E:Env) (u:Option V) (h:ae) (w:World) (m:FrameMode) (fl:Option V) (aa:ae),
 kp h4 ab u h=.go fl aa→kF E ab ds→iz E u m→aW aw E h w→(∀av cK al,E.le av→iz av fl cK→aW aw av aa al→LeavesInM (bS none) 0 P fn tmps R [] cK al)→LeavesInM (bS none) 0 P fn tmps R ds m w
 | [],ds,E,u,h,w,m,fl,aa,he,aV,hu,s,cl=>by
   simp only [kp,ph.go.injEq] at he
   obtain ⟨rfl,rfl⟩:=he
   simp only [kF] at aV
   subst aV
   exact cl E m w (Env.le.refl E) hu s
 | v::ab,ds,E,u,h,w,m,fl,aa,he,aV,hu,s,cl=>by
   obtain ⟨d,oe,rfl,yv,yw⟩:=aV
   cases v with
   | func f args=>
     simp only [kp] at he
     cases ar:h4 f args u h with
     | fail=>rw [ar] at he;cases he
     | go FR U=>
       rw [ar] at he
       simp only at he
       obtain ⟨ax,cap,aC,ai⟩:=yv
       obtain ⟨⟨Tn,gq,af⟩,cm⟩:=jc _ _ _ _ _ _ ar
       refine ⟨hu.run,.inr ⟨fun h=>by simp at h,_,cap,f,d.args++cap,aC,?_,fun _ _=>trivial,?_⟩⟩
       · rw [aC]
         simp only [invoke]
         exact qe bw gq af _ w
       · have e:d.args++cap=(d.args.toList++cap.toList).toArray:=by apply Array.ext';simp
         rw [e]
         refine CallsDIn.mono (cm aw E w _ m ai hu s) fun e m1 bM aF=>?_
         obtain ⟨eX,x,rfl,aj,ay,aK⟩:=aF
         exact Eo bw jc ab oe eX FR U bM (settle m1) fl aa he (yw.mono aj) ay aK fun bN m2 bI b1 b' d'=>cl bN m2 bI (aj.trans b1) b' d'
   | ptr b off=>
     simp only [kp] at he
     cases aD:h.get b<;>rw [aD] at he<;>simp only at he<;>try (cases he;done)
     obtain ⟨p,ah,UF⟩:=yv
     have af:=s.at ah
     rw [aD] at af
     obtain ⟨p',ft,cI,a6⟩:=af
     rw [ah] at ft;cases ft
     have jf:=(Array.getElem?_eq_some_iff.1 a6).1
     let bM:World:={w with heap:=w.heap.setIfInBounds p.bd (.deferred none)}
     have VQ:(Instr.takeDeferred p.bd).run P w=.ok [] bM:=by
      have dQ:(getObj p.bd).run P w=.ok (.deferred (some [])) w:=by simp only [getObj,Sem.run,a6]
      have oC:(setObj p.bd (.deferred none)).run P w=.ok () bM:=by simp only [setObj,Sem.run,a6];rfl
      simp only [Instr.takeDeferred,Sem.run_bind,dQ,Result.andThen_ok,oC,Sem.run_pure]
     have s1:aW aw E (h.set b .dead) bM:=s.gone (by rw [aD];rfl) ah cI (by simp [bM]) (fun j bH=>by simp only [bM,Array.getElem?_setIfInBounds];rw [if_neg (fun e=>bH e.symm)]) rfl rfl rfl
     refine ⟨hu.run,.inl ⟨p.bd,bM,by rw [UF],VQ,?_⟩⟩
     exact Eo bw jc ab oe E u _ bM m fl aa he yw hu s1 cl
   | _=>simp [kp] at he
theorem Fp {P:Program} {aw:Fr} {E:Env} {fn:Func} {r:bo} {h:ae} {a:Act} {w:World} (k:RegRel0 E fn.ntmps r a) (s:aW aw E h w) {ab:List V} (bx:(il P fn.ntmps fn.results.toList).run r h=some ab):
 ∃x,(results fn a.tmps).run P w=.ok x w∧Rel E (oneOf ab) x:=by
 obtain ⟨b2,b1,b'⟩:=Fj (P:=P) k s bx
 exact ZX b1 fn a P w b'
section
variable {C:Ctx}
theorem RF (ex:gk):fm C.P (oc C ex):=by
 intro f args h v aa he
 trivial
def nS (aw:Fr) (E:Env) (R:Ending→World→Prop):aT→Prop
 | .val v aa=>∀av x al,E.le av→Rel av v x→aW aw av aa al→R (.returned x) al
 | .cb v aa=>∀av x al,E.le av→Rel av v x→aW aw av aa al→R (.panicked (mF x)) al
 | .fail=>False
theorem nS.up {aw:Fr} {E av:Env} (h:E.le av) {R:Ending→World→Prop} {x:aT} (k:nS aw E R x):nS aw av R x:=by
 cases x with
 | val v a6=>exact fun bN a w ad=>k bN a w (h.trans ad)
 | cb v a6=>exact fun bN a w ad=>k bN a w (h.trans ad)
 | fail=>exact k
theorem Cw (bw:dJ C.P) {h4:qt} (jc:w6 C.P h4) {aw:Fr} {fn:Func} {E:Env} {r:bo} {u:Option V} {h:ae} {a:Act} {w:World} {m:FrameMode} {R:Ending→World→Prop}
 (k:ep E fn.ntmps r a) (hu:iz E u m) (s:aW aw E h w)
 (ah:nS aw E R (finish (il C.P fn.ntmps fn.results.toList) r (kp h4 (T.get .bad dT r).list u h))):LeavesInM (bS none) 0 C.P fn a.tmps R a.defers m w:=by
 cases ai:kp h4 (T.get .bad dT r).list u h with
 | fail=>rw [ai] at ah;exact ah.elim
 | go fl aa=>
   rw [ai] at ah
   refine Eo bw jc _ a.defers E u h w m fl aa ai k.defers.list hu s fun av cK al aj ay aK=>?_
   cases fl with
   | some v=>
     obtain ⟨x,ao,rfl⟩:=ay
     exact ah av x al aj ao aK
   | none=>
     simp only [iz] at ay
     subst ay
     simp only [finish] at ah
     cases bx:(il C.P fn.ntmps fn.results.toList).run r aa with
     | none=>rw [bx] at ah;exact ah.elim
     | some ab=>
       rw [bx] at ah
       obtain ⟨x,b1,b'⟩:=Fp (P:=C.P) (k.mono aj).toRegRel0 aK bx
       exact ⟨x,b1,ah av x al aj b' aK⟩
theorem HI {res:ss} {u fl:Option V} {x:jx} {aa:ae} (he:xY res u x=.go fl aa):∃e r ab,x=.ok e r aa∧(e=.normal∨e=.ret)∧T.get .bad dT r=.bad∧res.run r aa=some ab∧fl=u:=by
 unfold xY at he
 cases x with
 | fail=>cases he
 | cb _ _ _=>cases he
 | ok e r h=>
   have main:(bif (T.get .bad dT r).Ee then (match res.run r h with
    | some _=>ph.go u h
    | none=>.fail) else .fail)=.go fl aa→(e=.normal∨e=.ret)→∃cQ bn ab,jx.ok e r h=.ok cQ bn aa∧(cQ=.normal∨cQ=.ret)∧T.get .bad dT bn=.bad∧res.run bn aa=some ab∧fl=u:=by
    intro he ga
    cases af:(T.get .bad dT r).Ee with
    | false=>rw [af] at he;cases he
    | true=>
      rw [af] at he
      simp only [cond_true] at he
      have Uv:T.get .bad dT r=.bad:=by
       cases aD:T.get .bad dT r<;>rw [aD] at af<;>first
        | rfl
        | cases af
      cases bx:res.run r h with
      | none=>rw [bx] at he;cases he
      | some ab=>
        rw [bx] at he
        simp only [ph.go.injEq] at he
        obtain ⟨rfl,rfl⟩:=he
        exact ⟨e,r,ab,rfl,ga,Uv,bx,rfl⟩
   cases e with
   | normal=>exact main he (.inl rfl)
   | ret=>exact main he (.inr rfl)
   | exit id=>cases he
theorem aaY {c:Code} {s:AW} (h:zR c=some s):∃id cT cG args types,c=.seq (.region id #[cT,cG] false) s.rest∧cT.dst=some s.d∧cT.op=.call ⟨.builtin .recover,args,types⟩∧cT.guard=none∧cG.dst=some s.e∧cG.op=.assign s.x∧cG.guard=none:=by
 unfold zR at h
 split at h
 case h_2=>cases h
 rename_i id ops rest
 split at h
 case h_2=>cases h
 rename_i cT cG ai
 split at h
 case h_2=>cases h
 rename_i d args types e x U ad aI br cp f'
 cases h
 have Vs:ops=#[cT,cG]:=by apply Array.ext';simp [ai]
 subst Vs
 exact ⟨id,cT,cG,_,_,rfl,U,ad,aI,br,cp,f'⟩
theorem SA (cR:C.P.follows .mixedOrders=true) (bw:dJ C.P) {ex:gk} (hex:pb C.P ex):w6 C.P (xX C.P ex):=by
 intro f args u h fl aa he
 unfold xX at he
 cases ax:C.P.funcs[f]? with
 | none=>rw [ax] at he;cases he
 | some fn=>
   rw [ax] at he
   simp only at he
   cases af:fn.body with
   | none=>rw [af] at he;cases he
   | some c=>
     rw [af] at he
     simp only at he
     refine ⟨⟨fn,rfl,by rw [af];rfl⟩,fun aw E w xs m ai hu s=>?_⟩
     cases fs:Nat.ble fn.ntmps top with
     | false=>rw [fs] at he;cases he
     | true=>
       rw [fs] at he
       simp only [cond_true] at he
       rw [Nat.ble_eq] at fs
       unfold HJ at he
       cases jb:Nat.ble args.length fn.ntmps with
       | false=>rw [jb] at he;cases he
       | true=>
         rw [jb] at he
         simp only [cond_true] at he
         rw [Nat.ble_eq] at jb
         have k:=H6 ai jb fs
         cases aG:zR c with
         | none=>
           rw [aG] at he
           simp only at he
           obtain ⟨e,r,ab,ao,ga,pE,bx,rfl⟩:=HI he
           refine CallsDIn.mono (callsDIn_of_wp (R:=fun e al=>∃av x,e=.returned x∧E.le av∧aW aw av aa al) ax af trivial ?_) fun cQ cK al aF=>?_
           · refine (hex fn.ntmps c none aw _ h (.inl rfl) E _ w k s _ ?_).wp
             rw [ao]
             intro av bf al aj ay aK
             have aV:bf.defers=[]:=by have:=ay.defers;rw [pE] at this;exact this
             obtain ⟨x,b1,b'⟩:=Fp (P:=C.P) ay.toRegRel0 aK bx
             rcases ga with rfl | rfl<;>exact ⟨aV,x,b1,av,x,rfl,aj,aK⟩
           · obtain ⟨rfl,av,x,rfl,aj,aK⟩:=aF
             exact ⟨av,x,rfl,aj,by rw [hu.settle];exact hu.mono aj,aK⟩
         | some cz=>
           rw [aG] at he
           simp only at he
           cases fB:(ei fn.ntmps (some cz.d)&&ei fn.ntmps (some cz.e)) with
           | false=>rw [fB] at he;cases he
           | true=>
             rw [fB] at he
             simp only [cond_true] at he
             simp only [Bool.and_eq_true] at fB
             obtain ⟨e,r,ab,ao,ga,pE,bx,rfl⟩:=HI he
             obtain ⟨id,cT,cG,wM,rt,rfl,g1,g2,g3,g4,g5,g6⟩:=aaY aG
             refine callsDIn_of_wpSIn ax af trivial fun qL cs CZ=>wpSIn_seq (wpSIn_region ?_)
             obtain ⟨X,cO,sG,gp,cK,kk,VL⟩:∃X,Rel E (u.getD .nilIface) X∧∃sG,(match recoverD (qL::cs) with
              | some (v,Sq)=>v=X∧Sq=sG
              | none=>X=.nilIface∧sG=qL::cs)∧∃cK,sG={qL with mode:=cK}::cs∧settle cK=.returning:=by
              cases u with
              | none=>
                simp only [iz] at hu
                subst hu
                refine ⟨.nilIface,rfl,qL::cs,?_,.returning,?_,rfl⟩
                · simp only [recoverD,CZ];exact ⟨trivial,trivial⟩
                · rw [←CZ]
              | some v=>
                obtain ⟨x,ao,rfl⟩:=hu
                refine ⟨x,ao,{qL with mode:=.panicking [{v:=x,recovered:=true}]}::cs,?_,.panicking [{v:=x,recovered:=true}],rfl,rfl⟩
                simp only [recoverD,CZ];exact ⟨trivial,trivial⟩
             have b_:=k.put fB.1 cO
             have cA:=b_.put fB.2 (c_ b_.toRegRel0 cz.x)
             rw [←g1] at cA
             rw [←g4] at cA
             have tl:=(hex fn.ntmps cz.rest none aw _ h (.inl rfl) E _ w cA s (fun cQ bf al=>bodyPostS C.P fn qL cs (fun e cK al=>∃av x,e=.returned x∧E.le av∧iz av none (settle cK)∧aW aw av aa al) cQ bf sG al) (by
              have:LZ cz u (j7 0 args .e)=(eA cG.dst).run ((eA cT.dst).run (j7 0 args .e) (u.getD .nilIface)) ((bA cz.x).run ((eA cT.dst).run (j7 0 args .e) (u.getD .nilIface))):=by rw [g1,g4];rfl
              rw [←this,ao]
              intro av bf al aj ay aK
              have aV:bf.defers=[]:=by have:=ay.defers;rw [pE] at this;exact this
              obtain ⟨x,b1,b'⟩:=Fp (P:=C.P) ay.toRegRel0 aK bx
              rcases ga with rfl | rfl<;>exact ⟨aV,cK,kk,x,b1,av,x,rfl,aj,VL,aK⟩)).wp
             have JP:=wpSIn_of_wpIn (F:=bS none) rfl tl
             have mv:∀y,Region.wanted cT y=true:=fun y=>by simp [Region.wanted,g3]
             have pL:∀y,Region.wanted cG y=true:=fun y=>by simp [Region.wanted,g6]
             have VI:∀(ρ:Operand→Value),(execOp ρ cT).run C.P w=.ok .recover w:=fun ρ=>by
              obtain ⟨dst,op,type,pos,after,guard⟩:=cT
              simp only at g2
              subst g2
              rfl
             have vH:∀(ρ:Operand→Value),(execOp ρ cG).run C.P w=.ok (.value (ρ cz.x)) w:=fun ρ=>by
              obtain ⟨dst,op,type,pos,after,guard⟩:=cG
              simp only at g5
              subst g5
              rfl
             have bZ:(#[cT,cG]:Array Oper).size=2:=rfl
             rw [bZ]
             simp only [List.range_succ,List.range_zero,List.nil_append,List.cons_append,wpOpsSIn]
             have cC:(#[cT,cG]:Array Oper)[0]? =some cT:=rfl
             have aE:(#[cT,cG]:Array Oper)[1]? =some cG:=rfl
             rw [cC]
             simp only [mv,if_true,VI]
             refine ⟨fun _ _=>trivial,?_⟩
             cases JD:recoverD (qL::cs) with
             | none=>
               rw [JD] at gp
               obtain ⟨Ul,mb⟩:=gp
               subst Ul mb
               simp only [aE,pL,if_true,vH]
               exact ⟨fun _ _=>trivial,JP⟩
             | some FT=>
               obtain ⟨v,adw⟩:=FT
               rw [JD] at gp
               obtain ⟨rfl,rfl⟩:=gp
               simp only [aE,pL,if_true,vH]
               exact ⟨fun _ _=>trivial,JP⟩
end
end
end Go.Proofs.YtkehcalakofigaaGreatDoor.a1
namespace Go.Proofs.YtkehcalakofigaaGreatDoor.a1
variable [Lay]
open Go Go.RowKit
theorem My:∀(xs:List V) (x:V),Ae (xs++[x])=some (xs,x)
 | [],x=>rfl
 | [y],x=>rfl
 | y::z::xs,x=>by
   have:=My (z::xs) x
   simp only [List.cons_append] at this ⊢
   simp only [Ae,this]
theorem RegRel0.putAt {E:Env} {an:Nat} {r:bo} {t:Array Value} {ds:List Deferred} (k:RegRel0 E an r ⟨t,ds⟩) {d:Nat} (aV:d<an) (aC:d≤top) {v:V} {x:Value} (bx:Rel E v x):
 RegRel0 E an (T.put .bad v (aH d) r) ⟨t.setIfInBounds d x,ds⟩:=by
 refine ⟨by simp only [Array.size_setIfInBounds];exact k.size,fun j bH=>?_⟩
 rw [T.gn]
 have bZ:=k.size
 simp only at bZ
 by_cases h:d=j
 · subst h
   rw [if_pos rfl]
   simp [Array.getD_eq_getD_getElem?,bZ,aV,bx]
 · rw [if_neg (fun e=>h (gT e))]
   have:=k.aq j bH
   simpa [Array.getD_eq_getD_getElem?,Array.getElem?_setIfInBounds,h] using this
theorem LM {E:Env} {an:Nat} {ds:List Deferred}:∀(ba:List Nat) (ab:List V) (xs:List Value) (r:bo) (t:Array Value),lO an ba=true→aY E ab xs→RegRel0 E an r ⟨t,ds⟩→
 RegRel0 E an (oQ ba ab r) ⟨(ba.zip xs).foldl (fun t (p:Nat × Value)=>t.setIfInBounds p.1 p.2) t,ds⟩
 | [],ab,xs,r,t,_,_,k=>by cases ab<;>exact k
 | p::ba,[],xs,r,t,_,ai,k=>by simp only [aY] at ai;subst ai;exact k
 | p::ba,v::ab,xs,r,t,ah,ai,k=>by
   obtain ⟨y,b2,rfl,aZ,ai⟩:=ai
   simp only [lO,List.all_cons,Bool.and_eq_true,Nat.blt_eq,Nat.ble_eq] at ah
   simp only [oQ,List.zip_cons_cons,List.foldl_cons]
   exact LM ba ab b2 _ _ ah.2 ai (k.putAt ah.1.1 ah.1.2 aZ)
theorem LN {E:Env} {an:Nat} {ds:List Deferred} {ba:Array Nat} {ab:List V} {xs:List Value} {r:bo} {t:Array Value} (ah:lO an ba.toList=true) (ai:aY E ab xs) (k:RegRel0 E an r ⟨t,ds⟩):
 RegRel0 E an (oQ ba.toList ab r) ⟨(ba.zip xs.toArray).foldl (fun t (p:Nat × Value)=>t.setIfInBounds p.1 p.2) t,ds⟩:=by
 rw [←Array.foldl_toList,Array.toList_zip]
 exact LM ba.toList ab xs r t ah ai k
theorem RegRel0.Ov {E:Env} {an:Nat} {r:bo} {a:Act} (k:RegRel0 E an r a) (v:V):RegRel0 E an (T.put .bad v dT r) a:=
 ⟨k.size,fun t aC=>by rw [T.gn,if_neg (fun e=>rQ aC e.symm)];exact k.aq t aC⟩
section
variable {C:Ctx}
theorem To (bw:dJ C.P) (cR:C.P.follows .mixedOrders=true) {ex:gk} (hex:pb C.P ex) {f:FuncId} {args:List V} {h:ae} {aw:Fr} {E:Env} {w:World} {xs:List Value} (ai:aY E args xs) (s:aW aw E h w) {R:Ending→World→Prop}
 (ah:nS aw E R ((Cy C.P f).run ex args h)):(∃fn,C.P.funcs[f]? =some fn∧fn.body.isSome=true)∧Calls C.P f xs.toArray w R:=by
 unfold Cy at ah
 cases ax:C.P.funcs[f]? with
 | none=>rw [ax] at ah;exact ah.elim
 | some fn=>
   rw [ax] at ah
   simp only at ah
   cases af:fn.body with
   | none=>rw [af] at ah;exact ah.elim
   | some c=>
     rw [af] at ah
     simp only at ah
     refine ⟨⟨fn,rfl,by rw [af];rfl⟩,?_⟩
     cases fs:Nat.ble fn.ntmps top with
     | false=>rw [fs] at ah;exact ah.elim
     | true=>
       rw [fs] at ah
       simp only [cond_true] at ah
       rw [Nat.ble_eq] at fs
       unfold Iv at ah
       cases jb:Nat.ble args.length fn.ntmps with
       | false=>rw [jb] at ah;exact ah.elim
       | true=>
         rw [jb] at ah
         simp only [cond_true] at ah
         rw [Nat.ble_eq] at jb
         have k:=H6 ai jb fs
         have jc:=SA (C:=C) cR bw hex
         refine pq.1 (callsIn_of_wp_marks (F:=bS none) (n:=0) ax af trivial ?_)
         refine (hex fn.ntmps c none aw _ h (.inl rfl) E _ w k s _ ?_).wp
         cases aG:ex fn.ntmps c (j7 0 args .e) h with
         | fail=>rw [aG] at ah;exact ah
         | cb v r U=>
           rw [aG] at ah
           intro av bf al x aj ay aK bE
           exact Cw (u:=some v) bw jc ay ⟨x,aK,rfl⟩ bE (nS.up aj ah)
         | ok e r U=>
           rw [aG] at ah
           intro av bf al aj ay aK
           have main:nS aw E R (finish (il C.P fn.ntmps fn.results.toList) r (kp (xX C.P ex) (T.get .bad dT r).list none U))→LeavesInM (bS none) 0 C.P fn bf.tmps R bf.defers .returning al:=by
            intro ah
            exact Cw (u:=none) bw jc ay rfl aK (nS.up aj ah)
           cases e with
           | normal=>exact main ah
           | ret=>exact main ah
           | exit id=>exact ah.elim
theorem yd (bw:dJ C.P) (cR:C.P.follows .mixedOrders=true) (fg:l0 C) {ex:gk} (hex:pb C.P ex) {f:FuncId} {args:List V} {h:ae} {aw:Fr} {E:Env} {w:World} {xs:List Value} (ai:aY E args xs) (s:aW aw E h w) {R:Ending→World→Prop}
 (ah:nS aw E R ((sU C f).run ex args h)):(∃fn,C.P.funcs[f]? =some fn∧fn.body.isSome=true)∧Calls C.P f xs.toArray w R:=by
 unfold sU at ah
 cases aF:C.E7 f with
 | none=>rw [aF] at ah;exact To bw cR hex ai s ah
 | some p=>
   rw [aF] at ah
   simp only at ah
   cases aG:p.run args h with
   | fail=>rw [aG] at ah;exact ah.elim
   | cb _ _=>rw [aG] at ah;exact ah.elim
   | val v aa=>
     rw [aG] at ah
     obtain ⟨U,ad⟩:=fg.1 f p args h v aa aF aG
     refine ⟨U,(ad aw E w xs ai s).mono fun e al aF=>?_⟩
     obtain ⟨av,x,rfl,aj,ay,aK⟩:=aF
     exact ah av x al aj ay aK
theorem aW.loop {P:Program} {aw:Fr} {E:Env} {h:ae} {w:World} (s:aW aw E h w) {b:aO} {l dZ:lZ} {p:gY} {o bU:Loop} (aD:h.get b=.dv l) (ah:E b=some p) (cI:aw.w.heap.size≤p.bd) (a6:w.heap[p.bd]? =some (.loop o)) (aG:qA E dZ bU):
 (setObj p.bd (.loop bU)).run P w=.ok () {w with heap:=w.heap.setIfInBounds p.bd (.loop bU)}∧aW aw E (h.set b (.dv dZ)) {w with heap:=w.heap.setIfInBounds p.bd (.loop bU)}:=by
 have jf:=(Array.getElem?_eq_some_iff.1 a6).1
 refine ⟨by simp only [setObj,Sem.run,a6],s.set (p:=p) (by rw [aD];rfl) ah cI (by simp) (fun j bH=>?_) rfl rfl rfl (fun _ _ _ e=>by cases e) ?_⟩
 · simp only [Array.getElem?_setIfInBounds]
   rw [if_neg (fun e=>bH e.symm)]
 · exact ⟨p,bU,ah,cI,by simp [jf],aG⟩
theorem run_getLoop {P:Program} {r:Nat} {w:World} {o:Loop} (a6:w.heap[r]? =some (.loop o)):(Instr.getLoop r).run P w=.ok o w:=by
 have:(getObj r).run P w=.ok (.loop o) w:=by simp only [getObj,Sem.run,a6]
 simp only [Instr.getLoop,Sem.run_bind,this,Result.andThen_ok,Sem.run_pure]
theorem L' {aw:Fr} {E:Env} {h aa:ae} {w:World} {b:aO} {p:gY} {e:cY} {v:V} {P:Program} {R:Ending→World→Prop} {a:Act} (s:aW aw E h w) (ah:E b=some p) (he:r0 b e h=.val v aa)
 (cl:∀x al,Rel E v x→aW aw E aa al→R (.returned x) al):roundPost P p.bd R (toExit e) a w:=by
 unfold r0 at he
 have af:=s.at ah
 cases aD:h.get b<;>rw [aD] at he af<;>simp only at he<;>try (cases he;done)
 rename_i l
 obtain ⟨p',o,ft,cI,a6,aG⟩:=af
 rw [ah] at ft;cases ft
 have ou:=run_getLoop (P:=P) a6
 obtain ⟨bt,cW,bQ,fW,cL,gz,gU,fj⟩:=aG
 cases e with
 | normal=>
   simp only [aT.val.injEq] at he
   obtain ⟨rfl,rfl⟩:=he
   obtain ⟨U,ad⟩:=s.loop (P:=P) (dZ:=⟨0,none,l.d,l.an,l.r,l.ba,l.assign,l.body⟩) (bU:={o with state:=.ready,pending:=none}) aD ah cI a6 ⟨rfl,rfl,bQ,fW,cL,gz,gU,fj⟩
   refine ⟨.bool true,_,?_,cl _ _ rfl ad⟩
   simp only [Instr.endRound,Sem.run_bind,ou,Result.andThen_ok,Option.isNone_none,if_true,U,Sem.run_pure]
 | ret=>
   simp only [aT.val.injEq] at he
   obtain ⟨rfl,rfl⟩:=he
   obtain ⟨U,ad⟩:=s.loop (P:=P) (dZ:=⟨2,some .ret,l.d,l.an,l.r,l.ba,l.assign,l.body⟩) (bU:={o with state:=.done,pending:=some .ret}) aD ah cI a6 ⟨rfl,rfl,bQ,fW,cL,gz,gU,fj⟩
   refine ⟨.bool false,_,?_,cl _ _ rfl ad⟩
   simp only [Instr.endRound,Sem.run_bind,ou,Result.andThen_ok,Option.isNone_some,Bool.false_eq_true,if_false,U,Sem.run_pure]
 | exit id=>
   simp only [aT.val.injEq] at he
   obtain ⟨rfl,rfl⟩:=he
   obtain ⟨U,ad⟩:=s.loop (P:=P) (dZ:=⟨2,some (.exit id),l.d,l.an,l.r,l.ba,l.assign,l.body⟩) (bU:={o with state:=.done,pending:=some (.exit id)}) aD ah cI a6 ⟨rfl,rfl,bQ,fW,cL,gz,gU,fj⟩
   refine ⟨.bool false,_,?_,cl _ _ rfl ad⟩
   simp only [Instr.endRound,Sem.run_bind,ou,Result.andThen_ok,Option.isNone_some,Bool.false_eq_true,if_false,U,Sem.run_pure]
theorem abb {P:Program} {ex:gk} (hex:pb P ex) {aw:Fr} {E:Env} {h aa:ae} {w:World} {args:List V} {xs:List Value} {b:aO} {p:gY} {v:V} (he:wQ ex args b h=.val v aa) (ai:aY E args xs) (s:aW aw E h w) (ah:E b=some p):
 ∃f tmps assign body,(Instr.yield p.bd xs.toArray).run P w=.ok (.round p.bd f tmps assign body) w∧
  RoundIn (bS none) 0 P p.bd f tmps assign body w fun e al=>∃av x,e=.returned x∧E.le av∧Rel av v x∧aW aw av aa al:=by
 unfold wQ at he
 have af:=s.at ah
 cases aD:h.get b<;>rw [aD] at he af<;>simp only at he<;>try (cases he;done)
 rename_i l
 obtain ⟨p',o,ft,cI,a6,aG⟩:=af
 rw [ah] at ft;cases ft
 obtain ⟨bt,cW,bQ,fW,cL,gz,gU,fj⟩:=aG
 obtain ⟨ar,he⟩:=iC he
 simp only [Bool.and_eq_true,Nat.beq_eq] at ar
 obtain ⟨bC,bY,c3,fZ⟩:=ar
 have hlen:=ai.length
 have yN:o.params.size=xs.length:=by rw [←Array.length_toList,bQ,hlen,bC]
 refine ⟨o.fn,(o.params.zip xs.toArray).foldl (fun tmps (t,a)=>tmps.setIfInBounds t a) o.tmps,o.assign,o.body,?_,?_⟩
 · simp only [Instr.yield,Sem.run_bind,run_getLoop a6,Result.andThen_ok]
   rw [if_neg (by simp [yN])]
   rfl
 · rw [fW,cL]
   refine roundIn_of_wpIn (F:=bS none) trivial ?_
   have ns:RegRel0 E l.an l.r ⟨o.tmps,[]⟩:=⟨gz,gU⟩
   rw [←bQ] at bY he
   have b_:=(LN bY ai ns).Ov .bad
   have k:ep E l.an (T.put .bad .bad dT (oQ o.params.toList args l.r)) ⟨(o.params.zip xs.toArray).foldl (fun t (p:Nat × Value)=>t.setIfInBounds p.1 p.2) o.tmps,[]⟩:=⟨b_,by rw [T.gn,if_pos rfl];simp [iY]⟩
   have V5:=hex l.an l.assign (some p.bd) aw _ h (.inr c3) E _ w k s (Exit.then (fun n0 o9=>∃w0,(Instr.beginRound p.bd).run P o9=.ok () w0∧
    l.body.wpIn (bS (some p.bd)) 0 P (roundPost P p.bd fun e al=>∃av x,e=.returned x∧E.le av∧Rel av v x∧aW aw av aa al) n0 w0) (fun _ _ _=>False))
   refine (V5 ?_).wp
   cases ao:ex l.an l.assign (T.put .bad .bad dT (oQ o.params.toList args l.r)) h with
   | fail=>rw [ao] at he;cases he
   | cb _ _ _=>rw [ao] at he;cases he
   | ok e aaL U=>
     rw [ao] at he
     cases e<;>simp only at he<;>try (cases he;done)
     intro eX bK bM aj ay aK
     unfold zW at he
     have gQ:=aj _ _ ah
     have gP:=aK.at gQ
     cases Ja:U.get b<;>rw [Ja] at he gP<;>simp only at he<;>try (cases he;done)
     rename_i e7
     obtain ⟨b1,cT,vz,oh,ng,oB⟩:=gP
     rw [gQ] at vz;cases vz
     obtain ⟨cf,he⟩:=iC he
     rw [Nat.beq_eq] at cf
     obtain ⟨t1,t2,t3,t4,t5,t6,t7,t8⟩:=oB
     obtain ⟨g1,g2⟩:=aK.loop (P:=P) (dZ:=⟨1,e7.ew,e7.d,e7.an,e7.r,e7.ba,e7.assign,e7.body⟩) (bU:={cT with state:=.busy}) Ja gQ oh ng ⟨rfl,t2,t3,t4,t5,t6,t7,t8⟩
     refine ⟨{bM with heap:=bM.heap.setIfInBounds p.bd (.loop {cT with state:=.busy})},?_,?_⟩
     · have vG:cT.state=.ready:=by rw [t1,cf];rfl
       simp only [Instr.beginRound,Sem.run_bind,run_getLoop ng,Result.andThen_ok,g1,vG,Sem.run_pure]
     · refine (hex l.an l.body (some p.bd) aw _ _ (.inr fZ) eX _ _ ay g2 _ ?_).wp
       cases tx:ex l.an l.body aaL (U.set b (.dv ⟨1,e7.ew,e7.d,e7.an,e7.r,e7.ba,e7.assign,e7.body⟩)) with
       | fail=>rw [tx] at he;cases he
       | cb _ _ _=>rw [tx] at he;cases he
       | ok aM aem ad=>
         rw [tx] at he
         simp only at he
         intro bN a2 bI cd z2 z3
         exact L' z3 (cd _ _ gQ) he fun x al ed gL=>⟨bN,x,rfl,aj.trans cd,ed,gL⟩
theorem RG (cR:C.P.follows .mixedOrders=true) (bw:dJ C.P) (fg:l0 C) {ex:gk} (hex:pb C.P ex):ff C.P (oc C ex) where
 fn:=by
  intro aw f args h v aa ax he E w xs ai s
  unfold oc at he
  rw [fK,if_neg ax] at he
  cases ao:C.ext f with
  | some p=>
    rw [ao] at he
    simp only at he
    cases aG:p.run args h with
    | fail=>rw [aG] at he;cases he
    | cb _ _=>rw [aG] at he;cases he
    | val v1 U=>
      rw [aG] at he
      simp only [aT.EL,aT.val.injEq] at he
      obtain ⟨rfl,rfl⟩:=he
      exact .inr (fg.2 f p args h _ _ ao aG aw E w xs ai s)
  | none=>
  rw [ao] at he
  simp only at he
  exact .inl (yd bw cR fg hex ai s (by rw [he];exact fun av x al aj ay aK=>⟨av,x,rfl,aj,ay,aK⟩))
 cb:=by
  intro aw f args h v aa ax he E w xs ai s
  unfold oc at he
  rw [fK,if_neg ax] at he
  cases ao:C.ext f with
  | some p=>
    rw [ao] at he
    simp only at he
    cases aG:p.run args h<;>rw [aG] at he<;>cases he
  | none=>
  rw [ao] at he
  simp only at he
  exact yd bw cR fg hex ai s (by rw [he];exact fun av x al aj ay aK=>⟨av,x,rfl,aj,ay,aK⟩)
 Na:=by
  intro aw args b h v aa he E w xs p ai s ah
  unfold oc at he
  rw [fK,if_pos rfl] at he
  unfold Fv at he
  rw [My] at he
  exact abb hex he ai s ah
 Nb:=by
  intro args h v aa he
  unfold oc at he
  rw [fK,if_pos rfl] at he
  have aE:∀b e h,r0 b e h≠.cb v aa:=by
   intro b e h he
   unfold r0 at he
   split at he
   · cases e<;>cases he
   · cases he
  have aM:∀an c b r h,zW ex an c b r h≠.cb v aa:=by
   intro an c b r h he
   unfold zW at he
   split at he
   case h_2=>cases he
   rename_i l ai
   cases ar:Nat.beq l.st 0 with
   | false=>rw [ar] at he;cases he
   | true=>
     rw [ar] at he
     simp only [cond_true] at he
     split at he
     · exact aE _ _ _ he
     · cases he
  have b9:∀xs b h,wQ ex xs b h≠.cb v aa:=by
   intro xs b h he
   unfold wQ at he
   split at he
   case h_2=>cases he
   rename_i l ai
   cases ar:(Nat.beq xs.length l.ba.length&&(lO l.an l.ba&&(noMark l.assign&&noMark l.body))) with
   | false=>rw [ar] at he;cases he
   | true=>
     rw [ar] at he
     simp only [cond_true] at he
     split at he
     case h_2=>cases he
     rename_i e r U _
     cases e<;>simp only at he<;>try (cases he;done)
     exact aM _ _ _ _ _ he
  unfold Fv at he
  split at he
  case h_2=>cases he
  split at he
  case h_2=>cases he
  exact b9 _ _ _ he
end
end Go.Proofs.YtkehcalakofigaaGreatDoor.a1
namespace Go.Proofs.YtkehcalakofigaaGreatDoor.a1
variable [Lay]
open Go Go.RowKit
section
variable {C:Ctx}
theorem S6 {P:Program} {e:cY} {Q:Exit→Act→World→Prop} {a:Act} {w:World} (h:Q (toExit e) a w):(Cv e).wpIn (bS none) 0 P Q a w:=by
 cases e with
 | normal=>exact wpIn_skip h
 | exit id=>exact wpIn_exit h
 | ret=>exact wpIn_ret h
theorem aaU (cR:C.P.follows .mixedOrders=true) (bw:dJ C.P) (fg:l0 C) {ex:gk} (hex:pb C.P ex) {f:Operand} {ba:Array Tmp} {assign body:Code} {an:Nat} {aw:Fr} {E:Env} {r:bo} {h:ae} {a:Act} {w:World} {Q:Exit→Act→World→Prop}
 (k:ep E an r a) (s:aW aw E h w) (ah:sr aw E an Q (Fe (fun g args h=>(sU C g).run ex args h) (bA f) ba.toList an assign body r h)):(Code.rangeFunc f ba assign body).wpIn (bS none) 0 C.P Q a w:=by
 unfold Fe at ah
 have ax:=c_ k.toRegRel0 f
 generalize (bA f).run r=r9 at ah ax
 cases r9<;>simp only at ah<;>try (exact ah.elim)
 rename_i g cs
 rw [fK] at ah
 by_cases aD:g=cM
 · rw [if_pos aD] at ah;exact ah.elim
 · rw [if_neg aD] at ah
   simp only [Rel] at ax
   rcases ax with ⟨_,dO,cO,ai⟩ | ⟨Dc,_⟩
   case inr=>exact absurd Dc aD
   refine wpIn_rangeFunc fun fn _=>?_
   have f0:=s.fresh h.next (Nat.le_refl _)
   obtain ⟨eX,qZ⟩:∃eX,eX=E.put (aH h.next) ⟨w.heap.size,0,0⟩:=⟨_,rfl⟩
   obtain ⟨bM,mv⟩:∃bM:World,bM={w with heap:=w.heap.push (.deferred (some []))}:=⟨_,rfl⟩
   have vC:eX (aH h.next)=some ⟨w.heap.size,0,0⟩:=by rw [qZ];unfold Env.put;rw [if_pos rfl]
   have s1:aW aw eX (h.new .e0) bM:=by
    rw [qZ,mv]
    refine s.alloc 0 ⟨⟨w.heap.size,0,0⟩,by unfold Env.put;rw [if_pos rfl],s.frame.size,by simp⟩
   have lH:E.le eX:=by rw [qZ];exact Env.jq f0
   have ry:bM.heap.size=w.heap.size+1:=by rw [mv];simp
   obtain ⟨o,aP⟩:∃o:Loop,o={state:=.ready,pending:=none,fn,tmps:=a.tmps,params:=ba,assign,body,defers:=w.heap.size}:=⟨_,rfl⟩
   obtain ⟨bN,oi⟩:∃bN,bN=eX.put (aH (h.next+1)) ⟨bM.heap.size,0,0⟩:=⟨_,rfl⟩
   obtain ⟨bI,pL⟩:∃bI:World,bI={bM with heap:=bM.heap.push (.loop o)}:=⟨_,rfl⟩
   have f1:eX (aH (h.next+1))=none:=s1.fresh (h.next+1) (Nat.le_refl _)
   have jo:eX.le bN:=by rw [oi];exact Env.jq f1
   have vD:bN (aH (h.next+1))=some ⟨bM.heap.size,0,0⟩:=by rw [oi];unfold Env.put;rw [if_pos rfl]
   have dv:qA bN ⟨0,none,aH h.next,an,r,ba.toList,assign,body⟩ o:=by
    subst aP
    exact ⟨rfl,rfl,rfl,rfl,rfl,k.size,fun t aC=>Rel.mono (lH.trans jo) _ _ (k.aq t aC),_,jo _ _ vC,rfl⟩
   have s2:aW aw bN ((h.new .e0).new (.dv ⟨0,none,aH h.next,an,r,ba.toList,assign,body⟩)) bI:=by
    rw [oi,pL]
    refine s1.alloc 0 ⟨⟨bM.heap.size,0,0⟩,o,by show eX.put (aH (h.next+1)) _ (aH (h.next+1))=_;unfold Env.put;rw [if_pos rfl],by show aw.w.heap.size≤bM.heap.size;rw [ry];have:=s.frame.size;omega,by simp,?_⟩
    have:=dv
    rw [oi] at this
    exact this
   obtain ⟨gd,mh⟩:∃gd,gd=bM.heap.size:=⟨_,rfl⟩
   have aZ:Rel bN (.func cM [.ptr (aH (h.next+1)) 0]) (.func (.yield gd) #[] #[]):=by
    simp only [Rel]
    exact .inr ⟨trivial,_,_,rfl,vD,by rw [mh]⟩
   have l_:aY bN (.func cM [.ptr (aH (h.next+1)) 0]::cs) (.func (.yield gd) #[] #[]::dO.toList):=by
    simp only [aY]
    exact ⟨_,_,rfl,aZ,aY.mono (lH.trans jo) _ _ ai⟩
   have cm:=yd (C:=C) bw cR fg hex (f:=g) l_ s2 (R:=rangePost (bS none) 0 C.P gd Q {a with defers:=[{target:=.collected w.heap.size,args:=#[]}]++a.defers})
   cases aG:(sU C g).run ex (.func cM [.ptr (aH (h.next+1)) 0]::cs) ((h.new .e0).new (.dv ⟨0,none,aH h.next,an,r,ba.toList,assign,body⟩)) with
   | fail=>rw [aG] at ah;exact ah.elim
   | cb _ _=>rw [aG] at ah;exact ah.elim
   | val v aa=>
     rw [aG] at ah cm
     simp only at ah
     obtain ⟨⟨Tn,gq,af⟩,ar⟩:=cm (by
      intro av x al aj ay aK
      simp only [rangePost]
      unfold LV at ah
      have ib:=aj _ _ vD
      have af:=aK.at ib
      cases ou:aa.get (aH (h.next+1))<;>rw [ou] at ah af<;>simp only at ah<;>try (exact ah.elim)
      rename_i l
      obtain ⟨p',bU,ft,cI,a6,Dr⟩:=af
      rw [ib] at ft;cases ft
      obtain ⟨t1,t2,t3,t4,t5,t6,t7,t8⟩:=Dr
      rw [fK] at ah
      by_cases cf:l.st=1
      · rw [if_pos cf] at ah;exact ah.elim
      · rw [if_neg cf] at ah
        simp only at a6
        rw [←mh] at a6
        have Dy:(bU.state == LoopState.busy)=false:=by
         rw [t1]
         match ov:l.st with
         | 0=>rfl
         | 1=>exact absurd ov cf
         | n+2=>rfl
        have jf:=(Array.getElem?_eq_some_iff.1 a6).1
        let hz:World:={al with heap:=al.heap.setIfInBounds gd (.loop {bU with state:=.exhausted})}
        have eT:(Instr.endLoop gd).run C.P al=.ok bU.pending hz:=by
         have oC:(setObj gd (.loop {bU with state:=.exhausted})).run C.P al=.ok () hz:=by simp only [setObj,Sem.run,a6];rfl
         simp only [Instr.endLoop,Sem.run_bind,run_getLoop a6,Result.andThen_ok,Dy,Bool.false_eq_true,if_false,oC,Sem.run_pure]
        have ue:aW aw av (aa.set (aH (h.next+1)) .dead) hz:=by
         refine aK.gone (p:=⟨bM.heap.size,0,0⟩) (by rw [ou];rfl) ib cI (by simp [hz]) (fun j bH=>?_) rfl rfl rfl
         simp only at bH
         simp only [hz,Array.getElem?_setIfInBounds]
         rw [if_neg (fun e=>bH (by rw [←e,mh]))]
        have fD:ep av an (T.put .bad (.tuple (.ptr (aH h.next) 0::(T.get .bad dT r).list)) dT r) {a with defers:=[{target:=.collected w.heap.size,args:=#[]}]++a.defers}:=by
         refine ⟨⟨k.size,fun t aC=>?_⟩,?_⟩
         · rw [T.gn,if_neg (fun e=>rQ aC e.symm)]
           exact Rel.mono (lH.trans (jo.trans aj)) _ _ (k.aq t aC)
         · rw [T.gn,if_pos rfl]
           simp only [iY,kF,List.cons_append,List.nil_append]
           exact ⟨_,_,rfl,⟨_,aj _ _ (jo _ _ vC),rfl⟩,(k.defers.mono (lH.trans (jo.trans aj))).list⟩
        refine ⟨bU.pending,hz,eT,?_⟩
        rw [t2]
        cases ia:l.ew with
        | none=>
          rw [ia] at ah
          exact ah av _ hz (lH.trans (jo.trans aj)) fD ue
        | some e=>
          rw [ia] at ah
          exact S6 (ah av _ hz (lH.trans (jo.trans aj)) fD ue))
     refine ⟨gd,[{target:=.collected w.heap.size,args:=#[]}],bI,{target:=.fn (.func g) dO,args:=#[]++#[.func (.yield gd) #[] #[]]},bI,g,_,bI,?_,?_,fun _ _=>trivial,?_,fun h=>by simp at h,pq.2 ar⟩
     · subst aP pL mv
       have he:=run_enterLoop_outer (P:=C.P) (w:=w) fn a.tmps ba assign body
       rw [World.alloc,World.alloc] at he
       simp only [Array.size_push] at mh ⊢
       rw [mh]
       exact he
     · simp only [resolve,cO,Deferred.ofValue,Sem.run_pure]
       simp [Act.eval]
     · simp only [invoke]
       have e:(#[]++#[Value.func (.yield gd) #[] #[]]:Array Value)++dO=(Value.func (.yield gd) #[] #[]::dO.toList).toArray:=by apply Array.ext';simp
       rw [e]
       exact qe bw gq af _ bI
theorem uj {P:Program} {b:Frame} {a:Act} {k:List Item} {cs:List Frame} {w:World} {c:Code}:
 step P (lone (b.atR a (.code (.scope c)::k)) cs w)=.next (lone (b.atR a (.code c::.inScope c::k)) cs w):=
 step_lone_go (by simp [stepG,stepG.exec,Frame.atR])
theorem ab1 {P:Program} {b:Frame} {a:Act} {k:List Item} {cs:List Frame} {w:World} {c:Code}:
 step P (lone (b.atR a (.inScope c::k)) cs w)=.next (lone (b.atR a k) cs w):=
 step_lone_go (by simp [stepG,stepG.exec,Frame.atR])
theorem Mk {P:Program} {rd:Option Nat} {c:Code} {Q:Exit→Act→World→Prop} {a:Act} {w:World} (h:c.wpIn (bS rd) 0 P (Exit.noGoto Q) a w):(Code.scope c).wpIn (bS rd) 0 P Q a w:=by
 intro b k cs ji af aG
 obtain ⟨e,n0,o9,aF,hC⟩:=h b (.inScope c::k) cs ji af aG
 have ao:∀id,exitTo id (.inScope c::k)=exitTo id k:=fun id=>by simp [exitTo]
 cases e with
 | normal=>exact ⟨.normal,n0,o9,aF,.head (nb _) uj (StepsIn.trans hC (.one (nb _) ab1))⟩
 | exit id=>exact ⟨.exit id,n0,o9,aF,fun bl aA=>.head (nb _) uj (hC.1 bl (by rw [ao];exact aA)),fun oA aA=>let ⟨k₁,U,ad⟩:=hC.2 oA (by rw [ao];exact aA);⟨k₁,U,.head (nb _) uj ad⟩⟩
 | goto l=>exact aF.elim
 | ret=>exact ⟨_,n0,o9,aF,.of_steps (.one (nb _) uj) hC⟩
 | panic adu=>exact ⟨_,n0,o9,aF,.of_steps (.one (nb _) uj) hC⟩
 | outgrown=>exact ⟨_,n0,o9,aF,.of_steps (.one (nb _) uj) hC⟩
theorem Sc (cR:C.P.follows .mixedOrders=true) (bw:dJ C.P) (fg:l0 C) {ex:gk} (hex:pb C.P ex) (an:Nat):∀c:Code,F7 C.P an c ((hj C an c).run ex):=by
 have cm:=RG cR bw fg hex
 have cZ:=RF (C:=C) ex
 intro c
 induction c with
 | skip=>
   intro rd aw r h aG E a w k s Q ah
   exact wpIn_skip (ah E a w (Env.le.refl E) k s)
 | label l=>
   intro rd aw r h aG E a w k s Q ah
   exact wpIn_label (ah E a w (Env.le.refl E) k s)
 | exit id=>
   intro rd aw r h aG E a w k s Q ah
   exact wpIn_exit (ah E a w (Env.le.refl E) k s)
 | ret=>
   intro rd aw r h aG E a w k s Q ah
   exact wpIn_ret (ah E a w (Env.le.refl E) k s)
 | region id ops draw=>
   intro rd aw r h aG E a w k s Q ah
   have lift:∀x:lf,sr aw E an Q (match x with | .ok bn aa=>.ok .normal bn aa | .cb v bn aa=>.cb v bn aa | .fail=>.fail)→kJ aw E an (Q .normal) Q x:=by
    intro x ao
    cases x<;>exact ao
   cases draw with
   | true=>
     simp only [hj,cond_true,zS] at ah
     exact SI cR bw cm cZ (lift _ ah) k s
   | false=>
     simp only [hj,cond_false,zS] at ah
     refine wpIn_region ?_
     have:=Li (rd:=rd) (Q:=Q) bw cm cZ ops.toList 0 (fun j=>by simp) (aG.imp (fun h=>h) fun h=>by simpa only [noMark,List.all_eq_true] using h) E r h a w (lift _ ah) k s
     rw [List.range_eq_range']
     simpa using this
 | seq x y rC rD=>
   intro rd aw r h aG E a w k s Q ah
   simp only [hj,Ml] at ah
   have tm:rd=none∨noMark x=true:=aG.imp (fun h=>h) fun h=>by simp only [noMark,Bool.and_eq_true] at h;exact h.1
   have DT:rd=none∨noMark y=true:=aG.imp (fun h=>h) fun h=>by simp only [noMark,Bool.and_eq_true] at h;exact h.2
   refine wpIn_seq (rC rd aw r h tm E a w k s _ ?_).wp
   cases ao:(hj C an x).run ex r h with
   | fail=>rw [ao] at ah;exact ah
   | cb v bt U=>rw [ao] at ah;exact ah
   | ok aE bt U=>
     rw [ao] at ah
     simp only at ah
     intro av bf al aj ay aK
     cases aE with
     | normal=>exact (rD rd aw bt U DT av bf al ay aK Q (ah.up aj)).wp
     | exit id=>exact ah av bf al aj ay aK
     | ret=>exact ah av bf al aj ay aK
 | cond c x y rC rD=>
   intro rd aw r h aG E a w k s Q ah
   simp only [hj,Hv] at ah
   have tm:rd=none∨noMark x=true:=aG.imp (fun h=>h) fun h=>by simp only [noMark,Bool.and_eq_true] at h;exact h.1
   have DT:rd=none∨noMark y=true:=aG.imp (fun h=>h) fun h=>by simp only [noMark,Bool.and_eq_true] at h;exact h.2
   have ar:=c_ k.toRegRel0 c
   cases bx:(bA c).run r<;>rw [bx] at ah ar<;>simp only at ah<;>try (exact ah.elim)
   rename_i t
   simp only [Rel] at ar
   cases t with
   | true=>exact wpIn_cond_true ar (rC rd aw r h tm E a w k s Q ah).wp
   | false=>exact wpIn_cond_false ar (rD rd aw r h DT E a w k s Q ah).wp
 | block id x bh=>
   intro rd aw r h aG E a w k s Q ah
   simp only [hj,GV] at ah
   refine wpIn_block (bh rd aw r h (aG.imp (fun h=>h) fun h=>h) E a w k s _ ?_).wp
   cases ao:(hj C an x).run ex r h with
   | fail=>rw [ao] at ah;exact ah
   | cb v bt U=>rw [ao] at ah;exact ah
   | ok aE bt U=>
     rw [ao] at ah
     simp only at ah
     intro av bf al aj ay aK
     cases aE with
     | normal=>exact ah av bf al aj ay aK
     | ret=>exact ah av bf al aj ay aK
     | exit i=>
       simp only [fK] at ah
       simp only [toExit,Exit.inBlock]
       by_cases aB:i=id
       · rw [if_pos aB] at ah ⊢;exact ah av bf al aj ay aK
       · rw [if_neg aB] at ah ⊢;exact ah av bf al aj ay aK
 | loop x bh=>
   intro rd aw r h aG E a w k s Q ah
   simp only [hj,KI] at ah
   have tm:rd=none∨noMark x=true:=aG.imp (fun h=>h) fun h=>h
   intro b cD cs ji
   cases ao:(hj C an x).run ex r h with
   | fail=>rw [ao] at ah;exact ah.elim
   | cb v bt U=>
     rw [ao] at ah
     have body:=(bh rd aw r h tm E a w k s (fun cQ bf al=>∃y,cQ=.panic y∧Q cQ bf al) (by rw [ao];exact fun av bf al x aj ay aK bE=>⟨_,rfl,ah av bf al x aj ay aK bE⟩)).wp b (.inLoop x::cD) cs ji trivial (Fu _)
     obtain ⟨aM,a2,bI,⟨y,rfl,q⟩,hC⟩:=body
     exact ⟨_,a2,bI,q,.pass (x:=.inLoop x) rfl (fun _ _=>.inl (by simp)) hC⟩
   | ok aE bt U=>
     rw [ao] at ah
     simp only at ah
     have body:=(bh rd aw r h tm E a w k s
      (fun cQ bf al=>cQ=toExit aE∧∃av,E.le av∧ep av an bt bf∧aW aw av U al) (by rw [ao];exact fun av bf al aj ay aK=>⟨rfl,av,aj,ay,aK⟩)).wp b (.inLoop x::cD) cs ji trivial (Fu _)
     obtain ⟨aM,a2,bI,⟨rfl,bN,aj,ay,aK⟩,hC⟩:=body
     cases aE with
     | normal=>
       have next:=hex an (.loop x) rd aw bt U aG bN a2 bI ay aK Q (ah.up aj)
       obtain ⟨b9,a3,lV,b1,b'⟩:=next b cD cs ji
       exact ⟨b9,a3,lV,b1,.of_steps (StepsIn.trans hC (.one (nb _) stepR_inLoop)) b'⟩
     | exit id=>exact ⟨.exit id,a2,bI,ah bN a2 bI aj ay aK,.pass (x:=.inLoop x) rfl (fun _ _=>.inl (by simp)) hC⟩
     | ret=>exact ⟨.ret,a2,bI,ah bN a2 bI aj ay aK,.pass (x:=.inLoop x) rfl (fun _ _=>.inl (by simp)) hC⟩
 | scope x bh=>
   intro rd aw r h aG E a w k s Q ah
   simp only [hj] at ah
   refine Mk (bh rd aw r h (aG.imp (fun h=>h) fun h=>h) E a w k s _ ?_).wp
   cases ao:(hj C an x).run ex r h with
   | fail=>rw [ao] at ah;exact ah
   | cb v bt U=>rw [ao] at ah;exact ah
   | ok aE bt U=>
     rw [ao] at ah
     intro av bf al aj ay aK
     have:=ah av bf al aj ay aK
     cases aE<;>exact this
 | rangeFunc f ba x y _ _=>
   intro rd aw r h aG E a w k s Q ah
   rcases aG with rfl | aG
   case inr=>cases aG
   simp only [hj] at ah
   exact aaU cR bw fg hex k s ah
 | goto l=>intro rd aw r h aG E a w k s Q ah;exact ah.elim
 | refuse acP=>intro rd aw r h aG E a w k s Q ah;exact ah.elim
end
end Go.Proofs.YtkehcalakofigaaGreatDoor.a1
namespace Go.Proofs.YtkehcalakofigaaGreatDoor.a1
variable [Lay]
open Go Go.RowKit
section
variable {C:Ctx}
theorem Ic (cR:C.P.follows .mixedOrders=true) (bw:dJ C.P) (fg:l0 C):∀n,pb C.P (exec C n)
 | 0=>fun an c rd aw r h aG E a w k s Q ah=>ah.elim
 | n+1=>fun an c=>Sc cR bw fg (Ic cR bw fg n) an c
theorem B8 (cR:C.P.follows .mixedOrders=true) (bw:dJ C.P) (fg:l0 C) {n:Nat} {f:FuncId} {args:List V} {h aa:ae} {v:V} (ax:Nat.beq f cM=false) (ao:C.ext f=none) (he:ob C n f args h=.val v aa)
 {aw:Fr} {E:Env} {w:World} {xs:List Value} (ai:aY E args xs) (s:aW aw E h w):
 (∃fn,C.P.funcs[f]? =some fn∧fn.body.isSome=true)∧Calls C.P f xs.toArray w fun e al=>∃av x,e=.returned x∧E.le av∧Rel av v x∧aW aw av aa al:=by
 unfold ob oc at he
 rw [ax,cond_false,ao] at he
 simp only at he
 exact yd bw cR fg (Ic cR bw fg n) ai s (by rw [he];exact fun av x al aj ay aK=>⟨av,x,rfl,aj,ay,aK⟩)
theorem z8 (w:World) (hw:Lay.ok w):aW ⟨w,fun _=>none⟩ (fun _=>none) ae.empty w:=by
 refine ⟨fun b _=>?_,fun _ _ h=>(by cases h),(fun b bz p p' _ _ h=>by cases h),fun _ _=>rfl,Below.refl _ _,hw,(fun _ _ _ _ _ _ h=>by cases h)⟩
 have:ae.empty.get b=.dead:=by simp [ae.get,ae.empty]
 rw [this]
 trivial
theorem acx (cR:C.P.follows .mixedOrders=true) (bw:dJ C.P) {w:World} (hw:Lay.ok w) (fg:l0 C) {n:Nat} {f:FuncId} (ax:Nat.beq f cM=false) (ao:C.ext f=none) (h:FQ C n f []=true):
 Calls C.P f #[] w fun e al=>e=.returned (.bool true)∧Below w.heap.size w al:=by
 unfold FQ at h
 cases ar:ob C n f [] ae.empty with
 | fail=>rw [ar] at h;cases h
 | cb _ _=>rw [ar] at h;cases h
 | val v a6=>
   rw [ar] at h
   simp only at h
   cases v<;>simp only at h<;>try (cases h;done)
   subst h
   obtain ⟨_,hD⟩:=B8 cR bw fg ax ao ar (aw:=⟨w,fun _=>none⟩) (E:=fun _=>none) (w:=w) (xs:=[]) rfl (z8 w hw)
   refine hD.mono fun e al aF=>?_
   obtain ⟨av,x,rfl,_,ay,aK⟩:=aF
   simp only [Rel] at ay
   subst ay
   exact ⟨rfl,aK.frame⟩
end
end Go.Proofs.YtkehcalakofigaaGreatDoor.a1
namespace Go.Proofs.YtkehcalakofigaaGreatDoor.a1
variable [Lay]
open Go Go.RowKit Go.ChangeShapes Go.WideShapes
section
variable {H:Type} {enc:TypeId × Value→H} {P:Program}
end
end Go.Proofs.YtkehcalakofigaaGreatDoor.a1
namespace Go.Proofs.YtkehcalakofigaaGreatDoor.a1
variable [Lay]
open Go Go.RowKit
theorem aW.below {aw:Fr} {E:Env} {h:ae} {w al:World} (s:aW aw E h w) (af:Below w.heap.size w al):aW aw E h al:=by
 have bZ:aw.w.heap.size≤w.heap.size:=s.frame.size
 have fc:∀(k:Nat) (o:Obj),w.heap[k]? =some o→al.heap[k]? =some o:=by
  intro k o aA
  rw [af.block k,aA]
  by_cases aN:k<w.heap.size
  · exact aN
  · rw [Array.getElem?_eq_none (by omega)] at aA
    cases aA
 refine ⟨fun b ah=>?_,s.lN,s.inj,s.fresh,s.frame.trans (af.mono bZ),s.laid,s.base⟩
 have:=s.bd b ah
 cases aA:h.get b<;>rw [aA] at this<;>simp only [e'] at this ⊢
 · obtain ⟨aj,p,c,el,bG,ay,aK,bE,dh⟩:=this
   exact ⟨aj,p,c,el,bG,ay,aK,fc _ _ bE,dh⟩
 · obtain ⟨aj,p,c,el,bG,ay,aK,bE,dh⟩:=this
   exact ⟨aj,p,c,el,bG,ay,aK,fc _ _ bE,dh⟩
 · obtain ⟨p,aj,ay,aK,bE⟩:=this
   exact ⟨p,aj,ay,aK,fc _ _ bE⟩
 · obtain ⟨p,a,aj,ay,aK,bE⟩:=this
   exact ⟨p,a,aj,ay,fc _ _ aK,bE⟩
 · obtain ⟨p,o,aj,ay,aK,bE⟩:=this
   exact ⟨p,o,aj,ay,fc _ _ aK,bE⟩
 · obtain ⟨p,aj,ay,aK⟩:=this
   exact ⟨p,aj,ay,fc _ _ aK⟩
 · obtain ⟨p,a,c,l,aj,ay,aK,bE⟩:=this
   exact ⟨p,a,c,l,aj,ay,fc _ _ aK,bE⟩
 · obtain ⟨p,m,a,aj,ay,aK,bE,dh⟩:=this
   exact ⟨p,m,a,aj,ay,aK,fc _ _ bE,dh⟩
theorem Yt {P:Program} {f:FuncId} {args:List V} {v:V} {h:ae} (H:∀E xs w,Lay.ok w→aY E args xs→Calls P f xs.toArray w fun e al=>∃x,e=.returned x∧Rel E v x∧Below w.heap.size w al)
 (aw:Fr) (E:Env) (w:World) (xs:List Value) (ao:aY E args xs) (s:aW aw E h w):Calls P f xs.toArray w fun e al=>∃av x,e=.returned x∧E.le av∧Rel av v x∧aW aw av h al:=by
 refine (H E xs w (Lay.fc s.laid s.frame) ao).mono fun e al q=>?_
 obtain ⟨x,rfl,bx,af⟩:=q
 exact ⟨E,x,rfl,Env.le.refl E,bx,s.below af⟩
theorem S8 {P:Program} {f:FuncId} {fn:Func} {e:Array Value→Sem Value} (ax:P.funcs[f]? =some fn) (a7:(fn.name == "runtime.NumGoroutine")=false) (af:fn.body.isNone=true) (U:Extern.findNext fn=none) (ad:Extern.find fn=some e)
 {xs:Array Value} {x:Value} {w:World} (aG:(e xs).run P w=.ok x w):(callFunc f xs).run P w=.ok (.value x) w:=by
 simp only [callFunc,Sem.run_bind,run_program,Result.andThen_ok,ax]
 rw [if_neg (by rw [a7];simp),if_pos af]
 simp only [Sem.run_bind,U,ad]
 have hm:(mark (.extern f)).run P w=.ok () w:=rfl
 rw [hm]
 simp only [Result.andThen_ok,aG,Sem.run_pure]
def vU (c:Nat):List UInt8→Nat→Int
 | [],_=>-1
 | b::l,i=>bif Nat.beq b.toNat c then .ofNat i else vU c l (i+1)
theorem Kc (c:Nat) (ar:c<256):∀(l:List UInt8) (i:Nat),vU c l i=if Lib.indexByte l c.toUInt8=-1 then -1 else Lib.indexByte l c.toUInt8+i
 | [],i=>by simp [vU,Lib.indexByte]
 | b::l,i=>by
   have hE:=Lib.indexByte_ge l c.toUInt8
   have pD:(b.toNat=c)↔(b == c.toUInt8)=true:=by
    rw [beq_iff_eq,←UInt8.toNat_inj]
    have:c.toUInt8.toNat=c:=by
     show c % 256=c
     omega
    rw [this]
   have e:Lib.indexByte (b::l) c.toUInt8=if (b == c.toUInt8)=true then 0 else if (Lib.indexByte l c.toUInt8 == -1)=true then -1 else Lib.indexByte l c.toUInt8+1:=rfl
   simp only [vU,Kc c ar l (i+1),fK]
   by_cases h:b.toNat=c
   · rw [if_pos (pD.1 h)] at e
     rw [if_pos h,e]
     simp
   · rw [if_neg (fun e=>h (pD.2 e))] at e
     rw [if_neg h]
     by_cases ad:Lib.indexByte l c.toUInt8=-1
     · rw [ad] at e
       simp only [beq_self_eq_true,if_true] at e
       simp [ad,e]
     · have aI:(Lib.indexByte l c.toUInt8 == -1)=false:=by simpa using ad
       rw [aI] at e
       simp only [Bool.false_eq_true,if_false] at e
       rw [if_neg ad,e,if_neg (by omega)]
       omega
def preB:List UInt8→List UInt8→Bool
 | [],_=>true
 | _::_,[]=>false
 | a::x,b::y=>bif Nat.beq a.toNat b.toNat then preB x y else false
theorem E5:∀(x y:List UInt8),preB x y=x.isPrefixOf y
 | [],y=>by cases y<;>rfl
 | _::_,[]=>rfl
 | a::x,b::y=>by
   simp only [preB,List.isPrefixOf,fK,E5 x y]
   by_cases h:a.toNat=b.toNat
   · have:a=b:=UInt8.toNat_inj.1 h
     subst this
     simp
   · have:(a == b)=false:=by
      rw [beq_eq_false_iff_ne]
      exact fun e=>h (by rw [e])
     rw [if_neg h,this]
     rfl
def hasB:List UInt8→List UInt8→Bool
 | [],sub=>preB sub []
 | b::l,sub=>bif preB sub (b::l) then true else hasB l sub
theorem IW:∀(s sub:List UInt8),hasB s sub=Lib.contains s sub
 | [],sub=>by
   simp only [hasB,E5,Lib.contains,Lib.index]
   cases sub<;>simp
 | b::l,sub=>by
   simp only [hasB,E5]
   have bh:=IW l sub
   unfold Lib.contains at bh ⊢
   unfold Lib.index
   cases h:sub.isPrefixOf (b::l) with
   | true=>simp
   | false=>
     simp only [cond_false,Bool.false_eq_true,if_false,bh]
     have hE:=Lib.index_ge l sub
     cases ad:(Lib.index l sub == -1) with
     | true=>
       have:Lib.index l sub=-1:=by simpa using ad
       simp [this]
     | false=>
       have:Lib.index l sub≠-1:=by simpa using ad
       simp only [Bool.false_eq_true,if_false]
       rw [Bool.eq_iff_iff,decide_eq_true_eq,decide_eq_true_eq]
       omega
def Cc:uI:=⟨fun args h=>match args with
 | [x,y]=>(match x with
   | .str s=>(match y with
     | .str sub=>bif Nat.ble s.length 100000 then .val (.bool (hasB s sub)) h else .fail
     | _=>.fail)
   | _=>.fail)
 | _=>.fail⟩
theorem Sg {args:List V} {h aa:ae} {v:V} (he:Cc.run args h=.val v aa):∃s sub,args=[.str s,.str sub]∧s.length≤100000∧v=.bool (Lib.contains s sub)∧aa=h:=by
 simp only [Cc] at he
 split at he
 case h_2=>cases he
 split at he
 case h_2=>cases he
 split at he
 case h_2=>cases he
 obtain ⟨ar,U⟩:=iC he
 simp only [aT.val.injEq] at U
 obtain ⟨rfl,rfl⟩:=U
 exact ⟨_,_,rfl,Nat.le_of_ble_eq_true ar,by rw [IW],rfl⟩
def yY:uI:=⟨fun args h=>match args with
 | [x,y]=>(match x with
   | .str s=>(match y with
     | .int k c=>bif lp k .u8&&(Int.leB 0 c&&Nat.blt c.toNat 256) then .val (.int .i64 (vU c.toNat s 0)) h else .fail
     | _=>.fail)
   | _=>.fail)
 | _=>.fail⟩
theorem Wr {args:List V} {h aa:ae} {v:V} (he:yY.run args h=.val v aa):∃s c,args=[.str s,.int .u8 c]∧v=.int .i64 (Lib.indexByte s c.toNat.toUInt8)∧aa=h:=by
 simp only [yY] at he
 split at he
 case h_2=>cases he
 split at he
 case h_2=>cases he
 split at he
 case h_2=>cases he
 rename_i s _ k c
 obtain ⟨ar,U⟩:=iC he
 simp only [Bool.and_eq_true,Nat.blt_eq] at ar
 have aA:=pt ar.1
 subst aA
 simp only [aT.val.injEq] at U
 obtain ⟨rfl,rfl⟩:=U
 refine ⟨s,c,rfl,?_,rfl⟩
 rw [Kc _ ar.2.2]
 by_cases h:Lib.indexByte s c.toNat.toUInt8=-1
 · rw [if_pos h,h]
 · rw [if_neg h]
   simp
theorem Wq {P:Program} {f:FuncId} {fn:Func} (ax:P.funcs[f]? =some fn) (a7:(fn.name == "runtime.NumGoroutine")=false) (af:fn.body.isNone=true) (U:Extern.findNext fn=none) (ad:Extern.find fn=some Extern.BytealgIndexByte.indexByte)
 {args:List V} {h aa:ae} {v:V} (he:yY.run args h=.val v aa) (aw:Fr) (E:Env) (w:World) (xs:List Value) (ao:aY E args xs) (s:aW aw E h w):
 ∃av x al,(callFunc f xs.toArray).run P w=.ok (.value x) al∧E.le av∧Rel av v x∧aW aw av aa al:=by
 obtain ⟨t,c,rfl,rfl,rfl⟩:=Wr he
 obtain ⟨y,b2,rfl,aj,z,iv,rfl,ay,rfl⟩:=ao
 simp only [Rel] at aj ay
 subst aj ay
 exact ⟨E,_,w,S8 ax a7 af U ad (Lib.run_indexByteString _ _ _),Env.le.refl E,by simp [Rel],s⟩
end Go.Proofs.YtkehcalakofigaaGreatDoor.a1
namespace Go.Proofs.YtkehcalakofigaaGreatDoor.a1
variable [Lay]
open Go Go.RowKit Go.Maps Go.Sort Go.Shelf
open Go.Proofs (encStr)
def uY (clock:Nat):Nat→List bX→Bool
 | _,[]=>true
 | bJ,m::ms=>Nat.ble bJ m.born&&Nat.blt m.born clock&&uY clock (m.born+1) ms
theorem GX {clock:Nat}:∀{bJ:Nat} {es:List bX},uY clock bJ es=true→(∀n ∈ es.map (·.born),bJ≤n∧n<clock)∧(es.map (·.born)).Nodup
 | bJ,[],_=>⟨by simp,by simp⟩
 | bJ,m::ms,h=>by
   simp only [uY,Bool.and_eq_true,Nat.ble_eq,Nat.blt_eq] at h
   obtain ⟨g1,g2⟩:=GX h.2
   refine ⟨fun n a7=>?_,?_⟩
   · rw [List.map_cons] at a7
     rcases List.mem_cons.1 a7 with rfl | a7
     · exact h.1
     · have:=g1 n a7
       omega
   · rw [List.map_cons]
     refine List.nodup_cons.2 ⟨fun q=>?_,g2⟩
     have:=g1 _ q
     omega
theorem aam {aw:Fr} {E:Env} {h:ae} {w:World} (s:aW aw E h w) {b:aO} {q:gY} (aP:(h.get b).own=true) (aF:E b=some q):q.bd<w.heap.size:=by
 have af:=s.at aF
 cases aD:h.get b with
 | dead=>rw [aD] at aP;cases aP
 | view n cs=>rw [aD] at aP;cases aP
 | cells n cs cj st=>rw [aD] at af;obtain ⟨_,dK,c,el,bG,e,_,a6,_⟩:=af;rw [e] at aF;cases aF;exact (Array.getElem?_eq_some_iff.1 a6).1
 | iter st pos=>rw [aD] at af;obtain ⟨dK,e,_,_,a6⟩:=af;rw [e] at aF;cases aF;exact (Array.getElem?_eq_some_iff.1 a6).1
 | mp es clock=>rw [aD] at af;obtain ⟨dK,a,e,_,a6,_⟩:=af;rw [e] at aF;cases aF;exact (Array.getElem?_eq_some_iff.1 a6).1
 | dv l=>rw [aD] at af;obtain ⟨dK,o,e,_,a6,_⟩:=af;rw [e] at aF;cases aF;exact (Array.getElem?_eq_some_iff.1 a6).1
 | e0=>rw [aD] at af;obtain ⟨dK,e,_,a6⟩:=af;rw [e] at aF;cases aF;exact (Array.getElem?_eq_some_iff.1 a6).1
 | gf es=>rw [aD] at af;obtain ⟨dK,a,c,l,e,_,a6,_⟩:=af;rw [e] at aF;cases aF;exact (Array.getElem?_eq_some_iff.1 a6).1
 | hd src since seen last=>rw [aD] at af;obtain ⟨dK,m,a,e,_,_,a6,_⟩:=af;rw [e] at aF;cases aF;exact (Array.getElem?_eq_some_iff.1 a6).1
def nt:List bX→Option (List (List UInt8))
 | []=>some []
 | [m]=>match m.k with
   | .str s=>some [s]
   | _=>none
 | _=>none
def wY:List (List UInt8)→Bool
 | []=>true
 | x::l=>Nat.ble x.length 1000000&&wY l
def Ai (l:List (List UInt8)):List V:=l.map V.str
noncomputable def Mw (g:FuncId) (uS:aO) (h:ae):aT:=
 match h.get uS with
 | .cells n cs 0 _=>bif Nat.blt 0 n then (match T.get .bad (aH 0) cs with
   | .map b=>(match h.get b with
     | .mp es clock=>(match nt es with
       | some aJ=>bif uY clock 0 es&&wY aJ then (match aJ with
          | []=>.val .cq h
          | x::l=>(match hJ h (Ai (x::l)) 1 false with
            | some aa=>.val (.dP (aH h.next) 0 (x::l).length 0) aa
            | none=>.fail)) else .fail
       | none=>.fail)
     | _=>.fail)
   | _=>.fail) else .fail
 | _=>.fail
noncomputable def FC (g:FuncId):uI:=
 ⟨fun args h=>match args with
   | [.func f [.ptr uS 0]]=>bif Nat.beq f g then Mw g uS h else .fail
   | _=>.fail⟩
theorem XL:∀{es:List bX} {aJ:List (List UInt8)},nt es=some aJ→aJ.length=es.length∧aJ.length≤1
 | [],aJ,h=>by simp only [nt,Option.some.injEq] at h;subst h;exact ⟨rfl,by simp⟩
 | [m],aJ,h=>by
   simp only [nt] at h
   split at h
   · simp only [Option.some.injEq] at h;subst h;exact ⟨rfl,by simp⟩
   · cases h
 | _::_::_,aJ,h=>by simp [nt] at h
theorem XM {E:Env}:∀{es:List bX} {aJ:List (List UInt8)} {l:List MapEntry},nt es=some aJ→dp E es l→l.map (·.key)=aJ.map encStr∧l.map (·.born)=es.map (·.born)
 | [],aJ,l,h,aG=>by
   simp only [nt,Option.some.injEq] at h
   simp only [dp] at aG
   subst h aG
   exact ⟨rfl,rfl⟩
 | [m],aJ,l,h,aG=>by
   simp only [dp] at aG
   obtain ⟨e,l7,rfl,U,ad,aI,rfl⟩:=aG
   simp only [nt] at h
   split at h
   · rename_i n aA
     simp only [Option.some.injEq] at h
     subst h
     rw [aA] at U
     simp only [Rel] at U
     simp only [List.map_cons,List.map_nil,U,aI]
     exact ⟨by first | rfl | trivial,by first | rfl | trivial⟩
   · cases h
 | _::_::_,aJ,l,h,aG=>by simp [nt] at h
theorem M3:∀{l:List (List UInt8)},wY l=true→∀x ∈ l,x.length≤1000000
 | [],_,x,ao=>by cases ao
 | y::l,h,x,ao=>by
   simp only [wY,Bool.and_eq_true,Nat.ble_eq] at h
   rcases List.mem_cons.1 ao with rfl | ao
   · exact h.1
   · exact M3 h.2 x ao
theorem Mq {α:Type} {l m:List α} (h:m.Perm l) (ai:l.length≤1):m=l:=by
 match l,ai with
 | [],_=>exact h.eq_nil
 | [x],_=>exact List.perm_singleton.1 h
theorem aby {α:Type} (le:α→α→Bool) {l:List α} (ai:l.length≤1):l.mergeSort le=l:=Mq (List.mergeSort_perm l le) ai
def Gs (P:Program) (f g:FuncId) (b4:TypeId):Prop:=
 ∀(qs b EI:Nat) (pa:DataW Unit) (R:Value→Option (DataW Unit × List MemPlace)) (w:World),qs<w.heap.size→w.cell? ⟨qs,0,none⟩=some (.map (some b))→w.ownsMap P b4 R b EI pa→Maps.size pa≤maxLen→Maps.size pa * 16≤140737488355328→
  Calls P f #[.func (.func g) #[] #[.pointer (some ⟨qs,0,none⟩)]] w fun e al=>∃(v:Value) (eO:List (List UInt8)),e=.returned v∧eO.Perm (strKeys pa)∧
   al.ownsRow w.heap.size b4 1 v eO.length ((eO.mergeSort (fun x y=>decide (x≤y))).map encStr)∧(v=.slice none 0 0↔eO=[])∧Below w.heap.size w al
theorem ME (E:Env):∀l:List (List UInt8),aY E (Ai l) (l.map encStr)
 | []=>rfl
 | x::l=>by
   simp only [Ai,List.map_cons,aY]
   exact ⟨_,_,rfl,by simp only [Rel],ME E l⟩
theorem abS {P:Program} {f g:FuncId} {b4:TypeId} (yB:g≠cM) (kT:P.underlying b4=some .string) (C:Gs P f g b4) {args:List V} {h aa:ae} {v:V} (he:(FC g).run args h=.val v aa)
 (aw:Fr) (E:Env) (w:World) (xs:List Value) (ao:aY E args xs) (s:aW aw E h w):
 Calls P f xs.toArray w fun e al=>∃av x,e=.returned x∧E.le av∧Rel av v x∧aW aw av aa al:=by
 match args,he,ao with
 | [.func sQ [.ptr uS 0]],he,ao=>
   simp only [FC] at he
   cases C':Nat.beq sQ g with
   | false=>rw [C'] at he;cases he
   | true=>
     rw [C'] at he
     simp only [cond_true] at he
     have UR:sQ=g:=Nat.eq_of_beq_eq_true C'
     subst UR
     simp only [aY] at ao
     obtain ⟨y,_,rfl,aZ,rfl⟩:=ao
     simp only [Rel] at aZ
     obtain ⟨_,a,rfl,q,_,bm,aF,rfl⟩ | ⟨Wa,_⟩:=aZ
     rotate_left
     · exact absurd Wa yB
     obtain ⟨p,ah,rfl⟩:=aF
     have Um:a=#[.pointer (some ⟨p.bd,p.base+0,none⟩)]:=by
      rw [←Array.toList_inj,bm]
     subst Um
     unfold Mw at he
     split at he
     · rename_i n cs st gF
       have kQ:=s.base uS p n cs st gF ah
       have iH:=s.at ah
       rw [gF] at iH
       obtain ⟨_,p',c,el,bG,aE,_,q',_,_,_,I2⟩:=iH
       rw [ah] at aE;cases aE
       cases a7:Nat.blt 0 n with
       | false=>rw [a7] at he;cases he
       | true=>
         rw [a7] at he
         simp only [cond_true] at he
         rw [Nat.blt_eq] at a7
         split at he
         · rename_i b mj
           have s6:0<c.size:=by have:=I2.1;omega
           have hX:=I2.2 0 c[0] a7 (by rw [kQ];exact Array.getElem?_eq_getElem s6)
           rw [mj] at hX
           simp only [Rel] at hX
           obtain ⟨tU,Jx,q2⟩:=hX
           split at he
           · rename_i es clock lx
             have Jp:=s.at Jx
             rw [lx] at Jp
             obtain ⟨aek,am,aM,_,Vh,rl⟩:=Jp
             rw [Jx] at aM;cases aM
             cases mf:nt es with
             | none=>rw [mf] at he;cases he
             | some aJ=>
               rw [mf] at he
               simp only at he
               cases yA:(uY clock 0 es&&wY aJ) with
               | false=>rw [yA] at he;cases he
               | true=>
                 rw [yA] at he
                 simp only [cond_true] at he
                 simp only [Bool.and_eq_true] at yA
                 obtain ⟨g2,g3⟩:=yA
                 obtain ⟨b_,cA⟩:=XM mf rl
                 obtain ⟨yE,ta⟩:=XL mf
                 have CR:am.size=aJ.length:=by
                  have:=congrArg List.length b_
                  simpa using this
                 obtain ⟨bL,ca⟩:=GX g2
                 have tc:maxLen=9223372036854775807:=by decide
                 have JH:MapKept.Stamped am clock:=by
                  refine ⟨fun x ao=>?_,by rw [cA];exact ca,by
                   rw [b_]
                   match aJ,ta with
                   | [],_=>exact List.nodup_nil
                   | [x],_=>exact List.nodup_cons.2 ⟨by simp,List.nodup_nil⟩⟩
                  have:x.born ∈ es.map (·.born):=by rw [←cA];exact List.mem_map_of_mem ao
                  exact (bL _ this).2
                 have Jg:∀x ∈ am.toList,∃n ∈ aJ,x.key=encStr n:=by
                  intro x ao
                  have:x.key ∈ am.toList.map (·.key):=List.mem_map_of_mem ao
                  rw [b_] at this
                  obtain ⟨n,a7,e⟩:=List.mem_map.1 this
                  exact ⟨n,a7,e.symm⟩
                 have vF:∀x ∈ am.toList,∃n,x.key=encStr n∧WideElems.rd P b4 (fun _=>some ((.nil:DataW Unit),[])) x=some (.string n,.nil):=by
                  intro x ao
                  obtain ⟨n,a7,e⟩:=Jg x ao
                  refine ⟨n,e,?_⟩
                  unfold WideElems.rd
                  rw [e,show encStr n=.string ⟨⟨n⟩⟩ from rfl,WideMaps.keyOf_string_mk kT (by show n.length≤maxLen;have:=M3 g3 n a7;omega)]
                  rfl
                 have I_:WideElems.Fit P b4 (fun _=>some ((.nil:DataW Unit),[])) am clock:=⟨by rw [CR,yE,tc];omega,JH,fun x ao=>by obtain ⟨n,_,e⟩:=vF x ao;exact ⟨_,e⟩⟩
                 have fC:w.ownsMap P b4 (fun _=>some ((.nil:DataW Unit),[])) tU.bd am.size (.map ((am.toList.map (WideElems.rg P b4 (fun _=>some ((.nil:DataW Unit),[])))).foldr DataW.insert [])):=⟨am,clock,Vh,I_,Nat.le_refl _,rfl⟩
                 have Jh:(am.toList.map (WideElems.rg P b4 (fun _=>some ((.nil:DataW Unit),[])))).map (fun p=>(match p.1 with | .string b=>b | _=>[]))=aJ:=by
                  have bq:∀(l:List MapEntry) (iv:List (List UInt8)),(∀x ∈ l,∃n,x.key=encStr n∧WideElems.rd P b4 (fun _=>some ((.nil:DataW Unit),[])) x=some (.string n,.nil))→l.map (·.key)=iv.map encStr→(l.map (WideElems.rg P b4 (fun _=>some ((.nil:DataW Unit),[])))).map (fun p=>(match p.1 with | .string b=>b | _=>[]))=iv:=by
                   intro l
                   induction l with
                   | nil=>
                     intro iv _ e
                     cases iv with
                     | nil=>rfl
                     | cons z iv=>simp at e
                   | cons x l bh=>
                     intro iv cU e
                     cases iv with
                     | nil=>simp at e
                     | cons z iv=>
                       simp only [List.map_cons,List.cons.injEq] at e
                       obtain ⟨n,aE,aM⟩:=cU x (List.mem_cons_self ..)
                       have Wc:z=n:=by
                        have:=e.1.symm.trans aE
                        exact encStr_inj this
                       rw [List.map_cons,List.map_cons,bh iv (fun y aZ=>cU y (List.mem_cons_of_mem _ aZ)) e.2]
                       unfold WideElems.rg
                       rw [aM,Wc]
                       rfl
                  exact bq am.toList aJ vF b_
                 have py:(strKeys (.map ((am.toList.map (WideElems.rg P b4 (fun _=>some ((.nil:DataW Unit),[])))).foldr DataW.insert []):DataW Unit)).Perm aJ:=by
                  have:=(WideShapes.sorted_perm (am.toList.map (WideElems.rg P b4 (fun _=>some ((.nil:DataW Unit),[]))))).map (fun p=>(match p.1 with | .string b=>b | _=>[]))
                  rw [Jh] at this
                  exact this
                 have bZ:Maps.size (.map ((am.toList.map (WideElems.rg P b4 (fun _=>some ((.nil:DataW Unit),[])))).foldr DataW.insert []):DataW Unit)=aJ.length:=by
                  rw [Maps.size_eq,length_sorted,List.length_map,Array.length_toList,CR]
                 have aN:=(Array.getElem?_eq_some_iff.1 q').1
                 have Uz:w.cell? ⟨p.bd,0,none⟩=some (.map (some tU.bd)):=by
                  simp only [World.cell?,q']
                  rw [←q2]
                  exact Array.getElem?_eq_getElem s6
                 have call:=C p.bd tU.bd am.size _ _ w aN Uz fC (by rw [bZ,yE,tc];omega) (by rw [bZ,yE];omega)
                 rw [show p.base+0=0 from by rw [kQ]]
                 refine call.mono fun e al q=>?_
                 obtain ⟨v0,eO,rfl,aj,ay,aK,bE⟩:=q
                 have fi:eO.Perm aJ:=aj.trans py
                 have yO:=Mq fi ta
                 rw [yO,aby _ ta] at ay
                 have adZ:eO.length=aJ.length:=by rw [yO]
                 rw [yO] at aK
                 clear yO fi py Jh call I_ fC vF Jg JH b_ mf bZ CR yE
                 cases aJ with
                 | nil=>
                   have:([]:List (List UInt8))=[]:=rfl
                   cases he
                   rw [aK.2 this]
                   exact ⟨E,_,rfl,fun _ _ q=>q,by simp only [Rel],s.below bE⟩
                 | cons x l=>
                   simp only at he
                   cases q9:hJ h (Ai (x::l)) 1 false with
                   | none=>rw [q9] at he;cases he
                   | some U=>
                     rw [q9] at he
                     simp only [aT.val.injEq] at he
                     obtain ⟨rfl,rfl⟩:=he
                     obtain ⟨bt,cW⟩:=ay
                     rcases cW with ⟨_,cW⟩ | ⟨vd,cap,cur,rfl,cW,bQ,fW,cL,gz,gU⟩
                     · simp at cW
                     · unfold hJ at q9
                       obtain ⟨ar,q9⟩:=dF q9
                       simp only [Bool.and_eq_true,Nat.ble_eq] at ar
                       simp only [Option.some.injEq] at q9
                       subst q9
                       have di:E.put (aH h.next) ⟨vd,0,cap⟩ (aH h.next)=some ⟨vd,0,cap⟩:=by unfold Env.put;rw [if_pos rfl]
                       have hle:E.le (E.put (aH h.next) ⟨vd,0,cap⟩):=Env.jq (s.fresh h.next (Nat.le_refl _))
                       refine ⟨_,_,rfl,hle,?_,s.add (p:=⟨vd,0,cap⟩) bE.size (fun j bH _=>bE.block j bH) (Nat.le_trans s.frame.size cW) (fun bz dK fO mq dA=>?_) bE.os bE.tape bE.output (fun _ _ _ e=>by injection e with _ _ b9;omega) ?_⟩
                       · simp only [Rel]
                         exact ⟨_,di,by simp only [Nat.zero_add];omega,by simp only [Nat.add_zero,Nat.sub_zero]⟩
                       · have:=aam s fO mq
                         simp only at dA
                         omega
                       · have gp:=ye (aY.mono hle _ _ (ME E (x::l))) ar.1 (cur.toList.drop ((x::l).length * 1)).toArray
                         have UD:((x::l).map encStr).toArray++(cur.toList.drop ((x::l).length * 1)).toArray=cur:=by
                          rw [←gU,←Array.toList_inj]
                          simp
                         rw [UD] at gp
                         exact ⟨ar.1,⟨vd,0,cap⟩,cur,b4,(0,0),di,Nat.le_trans s.frame.size cW,bQ,.inr (Nat.le_refl _),fun _=>rfl,fun _=>by simp only;omega,gp⟩
           · cases he
         · cases he
     · cases he
end Go.Proofs.YtkehcalakofigaaGreatDoor.a1
