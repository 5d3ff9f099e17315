/- The abstract machine and its walks (a verified interpreter of the model's code: plain definitions and lemmas, no condition). Printed by a program from longer texts: names made short. -/
import Derived.Test.YtkehcalakofigaaGreatDoorM2
import Derived.Scope
import Derived.RangeFuncRecord
import Derived.Carry
import Derived.OpenShut
import Derived.ChangeSame
import Derived.Lib.Bytealg
import Derived.Lib.IndexMore
import Derived.Handed
import Derived.HandedShaped
import Derived.Shelf.SlIter.Sorted
import Derived.Shelf.SlIter.Nil
import Derived.StringKeys
import Derived.WideShapes
set_option linter.unusedSectionVars false
set_option linter.unusedSimpArgs false
set_option linter.unusedVariables false
namespace Go.Proofs.YtkehcalakofigaaGreatDoor.aS
variable [Lay]
open Go Go.RowKit
theorem A1 {α:Type} (p q:α→Bool):∀(l:List α),(∀x ∈ l,q x=true→p x=true)→(∃x ∈ l,p x=true∧q x=false)→l.countP q<l.countP p
 | [],_,h=>by obtain ⟨x,au,_⟩:=h;simp at au
 | a::l,aa,ae=>by
   have hle:l.countP q≤l.countP p:=List.countP_mono_left fun x au=>aa x (by simp [au])
   obtain ⟨x,au,aj,aF⟩:=ae
   simp only [List.mem_cons] at au
   rcases au with rfl | au
   · rw [List.countP_cons,List.countP_cons,aj,aF]
     simp
     omega
   · have bg:=A1 p q l (fun y a1=>aa y (by simp [a1])) ⟨x,au,aj,aF⟩
     have br:=aa a (by simp)
     rw [List.countP_cons,List.countP_cons]
     cases abS:q a with
     | true=>rw [br abS];simp;omega
     | false=>simp;omega
theorem u0 (e:Edge):Region.binds .any e=sM e:=by
 unfold Region.binds sM
 cases e.ground<;>rfl
section
variable {P:Program}
theorem sa {order:List Nat}:∀{bd:List Nat} {k j p:Nat},zm order k bd=true→bd[j]? =some p→order[p]? =some (k+j)
 | [],_,j,p,_,h=>by simp at h
 | q::bd,k,j,p,aj,h=>by
   simp only [zm,Bool.and_eq_true] at aj
   cases j with
   | zero=>
     simp only [List.getElem?_cons_zero,Option.some.injEq] at h
     subst h
     have aa:=aj.1
     cases aF:order[q]? with
     | none=>rw [aF] at aa;cases aa
     | some i=>rw [aF] at aa;rw [Nat.beq_eq] at aa;rw [aa];rfl
   | succ j=>
     have:=sa aj.2 (show bd[j]? =some p by simpa using h)
     rw [this]
     congr 1
     omega
theorem lZ {ops:Array Oper}:∀{order:List Nat} {p i:Nat} {o:Oper},order[p]? =some i→ops[i]? =some o→(gA ops order)[p]? =some o
 | [],p,i,o,h,_=>by simp at h
 | x::xs,p,i,o,h,aU=>by
   cases p with
   | zero=>
     simp only [List.getElem?_cons_zero,Option.some.injEq] at h
     subst h
     simp [gA,aU]
   | succ p=>simpa [gA] using lZ (show xs[p]? =some i by simpa using h) aU
theorem ov {ops:Array Oper}:∀{order:List Nat},(gA ops order).length=order.length
 | []=>rfl
 | x::xs=>by simp [gA,ov (order:=xs)]
structure Cert (P:Program) (ax:Nat) (ops:Array Oper) (calls:Nat→du) (es:List eo) (bF:bx) (bb:af) (cL:bx) (aA:af) (dY:List Nat) (order aE:List Nat) (N M:Nat) (lit:Bool):Prop where
 len:es.length=N
 y':N≤ops.size
 PB:N≤M
 hl:∀k,k<ops.size→posOf aE k<ops.size∧order[posOf aE k]? =some k
 j1:∀p,p<ops.size→∃i,i<ops.size∧posOf aE i=p
 bb:b' es aA 0=bb
 bF:dS es cL 0=bF
 step:∀i o,ops[i]? =some o→posOf aE i<N→∃e,es[posOf aE i]? =some e∧(ct P ax ops o).run (calls i) e.r e.h=.val e.v (b' es aA (posOf aE i+1))∧dS es cL (posOf aE i+1)=(eZ o.dst).run e.r e.v
 lE:∀i o,ops[i]? =some o→∃cB,(ef [] ops.toList)[i]? =some cB∧k8 i o=true∧(posOf aE i<M→
  ∀k ok,ops[k]? =some ok→posOf aE k<M→∃mk,(ef [] ops.toList)[k]? =some mk∧ny i cB (b2 ops o) o.dst k mk ok (Nat.blt (posOf aE k) (posOf aE i))=true∧(er P o.op=true→dP P ok=true→posOf aE k<posOf aE i→e_ cB k=true∨(lit=true∧jS o=true∧jS ok=true)))
 ends:N ∈ dY
 mem:∀j o,ops[j]? =some o→dP P o=true→posOf aE j ∈ dY
 RD:∀s ∈ dY,(s=ops.size∨(s=N∧M=N))∨∃k o,ops[k]? =some o∧dP P o=true∧s=posOf aE k
 ask:∀j o,ops[j]? =some o→looks o.op=true→er P o.op=false→posOf aE j<N→∃e,es[posOf aE j]? =some e∧∀s ∈ dY,
  qJ P (ef [] ops.toList) ops.toList aE j (((ef [] ops.toList)[j]?).getD 0) s=true→∃c ab,(fP P c∧f' P c)∧(ct P ax ops o).run c e.r (b' es aA s)=.val e.v ab
 tail:M<ops.size→M=N∧∀k ok mk,ops[k]? =some ok→N≤posOf aE k→(ef [] ops.toList)[k]? =some mk→∀j,j<ops.size→posOf aE j<N→e_ mk j=true
 stop:N<ops.size→ops.size≤M→∃i0 fM m0,ops[i0]? =some fM∧posOf aE i0=N∧kq fM.op=true∧(ef [] ops.toList)[i0]? =some m0∧
  (∀k ok mk,ops[k]? =some ok→N<posOf aE k→(ef [] ops.toList)[k]? =some mk→e_ mk i0=true)∧
  (∀k ok,ops[k]? =some ok→fL ok=true→posOf aE k<N→e_ m0 k=true)∧∃v ab,(ct P ax ops fM).run (calls i0) cL aA=.cw v ab
theorem Pq {o:Oper} (h:kq o.op=true):er P o.op=true∧fL o=false:=by
 obtain ⟨dst,op,type,pos,after,guard⟩:=o
 cases op<;>simp only [kq] at h<;>try (cases h;done)
 · rename_i c
   obtain ⟨callee,args,types⟩:=c
   cases callee<;>simp only at h<;>try (cases h;done)
   exact ⟨rfl,rfl⟩
 · exact ⟨rfl,rfl⟩
variable {ax:Nat} {ops:Array Oper} {call:du} {calls:Nat→du} {es:List eo} {bF:bx} {bb:af} {cL:bx} {aA:af} {dY:List Nat} {order aE:List Nat} {N M:Nat} {lit:Bool}
theorem Cert.ub (C:Cert P ax ops calls es bF bb cL aA dY order aE N M lit) {k bn:Nat} (aa:k<ops.size) (ae:bn<ops.size) (he:posOf aE k=posOf aE bn):k=bn:=by
 have a:=(C.hl k aa).2
 have b:=(C.hl bn ae).2
 rw [he,b] at a
 cases a
 rfl
theorem Ma {ops:Array Oper} {aE:List Nat} (aA:u9 P ops aE=true):∀i o,ops[i]? =some o→∃cB,(ef [] ops.toList)[i]? =some cB∧k8 i o=true∧
 ∀k ok,ops[k]? =some ok→∃mk,(ef [] ops.toList)[k]? =some mk∧ny i cB (b2 ops o) o.dst k mk ok (Nat.blt (posOf aE k) (posOf aE i))=true∧(er P o.op=true→dP P ok=true→posOf aE k<posOf aE i→e_ cB k=true):=by
 intro i o av
 unfold u9 at aA
 obtain ⟨cB,aa,ae⟩:=oF aA i o (by simpa using av)
 simp only [Nat.zero_add,Bool.and_eq_true] at ae
 refine ⟨cB,aa,ae.1,fun k ok aD=>?_⟩
 obtain ⟨mk,ck,cJ⟩:=oF ae.2 k ok (by simpa using aD)
 simp only [Nat.zero_add,Bool.and_eq_true] at cJ
 refine ⟨mk,ck,cJ.1,fun aB aO aN=>?_⟩
 have gk:=cJ.2
 rw [aB,aO,Bool.true_and,show Nat.blt (posOf aE k) (posOf aE i)=true from by rw [Nat.blt_eq];exact aN] at gk
 exact gk
theorem Cert.Jd (C:Cert P ax ops calls es bF bb cL aA dY order aE N M lit):∀p,p≤N→∀t,t≤top→
 (∃k o e,posOf aE k<p∧ops[k]? =some o∧o.dst=some t∧es[posOf aE k]? =some e∧T.get .bad (aC t) (dS es cL p)=e.v)∨
 ((∀k o,posOf aE k<p→ops[k]? =some o→o.dst≠some t)∧T.get .bad (aC t) (dS es cL p)=T.get .bad (aC t) bF)
 | 0,_,t,aG=>.inr ⟨fun k o h=>by omega,by rw [C.bF]⟩
 | p+1,av,t,aG=>by
   obtain ⟨i,aN,iz⟩:=C.j1 p (by have:=C.y';omega)
   have cn:ops[i]? =some ops[i]:=Array.getElem?_eq_getElem aN
   obtain ⟨e,aa,ae,aI⟩:=C.step i ops[i] cn (by omega)
   rw [iz] at aa ae aI
   have Hw:dS es cL p=e.r:=by simp [dS,aa]
   have dy:=M1 (r:=e.r) (v:=e.v) (jc ae).1 aG
   rw [aI,dy]
   by_cases aY:ops[i].dst=some t
   · rw [if_pos aY]
     exact .inl ⟨i,_,e,by omega,cn,aY,by rw [iz];exact aa,rfl⟩
   · rw [if_neg aY,←Hw]
     rcases Cert.Jd C p (by omega) t aG with ⟨k,o,db,al,aq,aK,bG,di⟩ | ⟨al,aq⟩
     · exact .inl ⟨k,o,db,by omega,aq,aK,bG,di⟩
     · refine .inr ⟨fun k o aD aU=>?_,aq⟩
       by_cases fJ:k=i
       · subst fJ;rw [cn] at aU;cases aU;exact aY
       · refine al k o ?_ aU
         have n0:=(Array.getElem?_eq_some_iff.1 aU).1
         have:posOf aE k≠p:=fun e=>fJ (C.ub n0 aN (by rw [e,iz]))
         omega
theorem Cert.FT (C:Cert P ax ops calls es bF bb cL aA dY order aE N M lit):∀p,p≤N→T.get .bad ep (dS es cL p)=T.get .bad ep bF
 | 0,_=>by rw [C.bF]
 | p+1,av=>by
   obtain ⟨i,aN,iz⟩:=C.j1 p (by have:=C.y';omega)
   have cn:ops[i]? =some ops[i]:=Array.getElem?_eq_getElem aN
   obtain ⟨e,aa,ae,aI⟩:=C.step i ops[i] cn (by omega)
   rw [iz] at aa ae aI
   have Hw:dS es cL p=e.r:=by simp [dS,aa]
   have aY:=(jc ae).1
   rw [aI,←Cert.FT C p (by omega),Hw]
   cases aa1:ops[i].dst with
   | none=>rfl
   | some d=>
     rw [aa1] at aY
     simp only [eI,Bool.and_eq_true,Nat.ble_eq] at aY
     simp only [eZ]
     rw [T.hd,if_neg (tZ aY.2)]
def nameAt (es:List eo) (aA:af) (aE:List Nat) (k:Nat):aQ:=aC (b' es aA (posOf aE k)).next
noncomputable def xD (es:List eo) (aA:af) (aE:List Nat) (k:Nat):b3:=(b' es aA (posOf aE k+1)).get (nameAt es aA aE k)
def Made (es:List eo) (aA:af) (aE:List Nat) (k:Nat):Prop:=(b' es aA (posOf aE k+1)).next≠(b' es aA (posOf aE k)).next
def iI (ops:Array Oper) (es:List eo) (aA:af) (aE:List Nat) (listed:Array Bool) (s k:Nat):Prop:=
 ∃o,ops[k]? =some o∧(fL o=true∧Made es aA aE k)∧¬listed.getD k false=true∧posOf aE k<s
structure Holds (az F:Fr) (es:List eo) (aA:af) (aE:List Nat) (D:Nat→Prop):Prop where
 w:F.w=az.w
 b0:∀b,(∀k,D k→nameAt es aA aE k≠b)→F.ed b=az.ed b
 new:∀k,D k→F.ed (nameAt es aA aE k)=some (xD es aA aE k)∧az.ed (nameAt es aA aE k)=none
 inj:∀k bn,D k→D bn→nameAt es aA aE k=nameAt es aA aE bn→k=bn
theorem Holds.congr {az F:Fr} {D Kb:Nat→Prop} (H:Holds az F es aA aE D) (h:∀k,Kb k↔D k):Holds az F es aA aE Kb:=
 ⟨H.w,fun b ai=>H.b0 b fun k aD=>ai k ((h k).2 aD),fun k aD=>H.new k ((h k).1 aD),fun k bn aD fV=>H.inj k bn ((h k).1 aD) ((h bn).1 fV)⟩
theorem Holds.none {az F:Fr} {D:Nat→Prop} (H:Holds az F es aA aE D) (h:∀k,¬D k):F=az:=by
 have:F.ed=az.ed:=funext fun b=>H.b0 b fun k aD=>absurd aD (h k)
 cases F;cases az
 have hw:=H.w
 simp only at this hw
 rw [this,hw]
theorem Cert.advance (C:Cert P ax ops calls es bF bb cL aA dY order aE N M lit) {az:Fr} {listed:Array Bool} {E:Env} {w:World}:∀(d q:Nat),q+d=N→(∀k o,ops[k]? =some o→fL o=true→q≤posOf aE k→¬listed.getD k false=true)→
 ∀F,Holds az F es aA aE (iI ops es aA aE listed q)→a8 F E (b' es aA q) w→
 ∃s dJ,s ∈ dY∧q≤s∧s≤N∧(∀k o,ops[k]? =some o→dP P o=true→q≤posOf aE k→s≤posOf aE k)∧Holds az dJ es aA aE (iI ops es aA aE listed s)∧a8 dJ E (b' es aA s) w
 | 0,q,aF,_,F,H,S=>by
   have:q=N:=by omega
   subst this
   exact ⟨q,F,C.ends,Nat.le_refl _,Nat.le_refl _,fun k o _ _ h=>h,H,S⟩
 | d+1,q,aF,n_,F,H,S=>by
   obtain ⟨i,aN,iz⟩:=C.j1 q (by have:=C.y';omega)
   have cn:ops[i]? =some ops[i]:=Array.getElem?_eq_getElem aN
   cases kR:dP P ops[i] with
   | true=>exact ⟨q,F,by rw [←iz];exact C.mem i _ cn kR,Nat.le_refl _,by omega,fun k o _ _ h=>h,H,S⟩
   | false=>
     obtain ⟨e,aa,ae,aI⟩:=C.step i ops[i] cn (by omega)
     rw [iz] at aa ae
     have rI:b' es aA q=e.h:=by simp [b',aa]
     have only:∀k o,ops[k]? =some o→posOf aE k=q→k=i:=fun k o aD aj=>C.ub (Array.getElem?_eq_some_iff.1 aD).1 aN (by rw [aj,iz])
     have fin:∀dJ,Holds az dJ es aA aE (iI ops es aA aE listed (q+1))→a8 dJ E (b' es aA (q+1)) w→
      ∃s dJ,s ∈ dY∧q≤s∧s≤N∧(∀k o,ops[k]? =some o→dP P o=true→q≤posOf aE k→s≤posOf aE k)∧Holds az dJ es aA aE (iI ops es aA aE listed s)∧a8 dJ E (b' es aA s) w:=by
      intro dJ iY Au
      obtain ⟨s,DH,g1,g2,g3,g4,g5,g6⟩:=Cert.advance C d (q+1) (by omega) (fun k o aa ae aI=>n_ k o aa ae (by omega)) dJ iY Au
      refine ⟨s,DH,g1,by omega,g3,fun k o aD aw aj=>g4 k o aD aw ?_,g5,g6⟩
      by_cases BT:posOf aE k=q
      · have:=only k o aD BT
        subst this
        rw [cn] at aD;cases aD
        rw [kR] at aw;cases aw
      · omega
     have pass:b' es aA (q+1)=e.h→(fL ops[i]=true→¬Made es aA aE i)→∃s dJ,s ∈ dY∧q≤s∧s≤N∧(∀k o,ops[k]? =some o→dP P o=true→q≤posOf aE k→s≤posOf aE k)∧Holds az dJ es aA aE (iI ops es aA aE listed s)∧a8 dJ E (b' es aA s) w:=by
      intro vT lO
      rw [←rI] at vT
      refine fin F (H.congr fun k=>⟨?_,?_⟩) (by rw [vT];exact S)
      · rintro ⟨o,al,aq,aK,bG⟩
        refine ⟨o,al,aq,aK,?_⟩
        have:posOf aE k≠q:=fun e=>by
         have:=only k o al e
         subst this
         rw [cn] at al;cases al
         exact lO aq.1 aq.2
        omega
      · rintro ⟨o,al,aq,aK,bG⟩
        exact ⟨o,al,aq,aK,by omega⟩
     cases br:fL ops[i] with
     | true=>
      rcases L9 br ae with ⟨cU,ck,cJ⟩ | ⟨ck,_⟩
      ·
       have aR:=S.hold cU
       have aX:nameAt es aA aE i=aC (b' es aA q).next:=by unfold nameAt;rw [iz]
       have ai:xD es aA aE i=cU:=by
        unfold xD
        rw [aX,iz,ck,rI,af.ht,if_pos rfl]
       rw [rI,←ck] at aR
       have abA:Made es aA aE i:=by
        unfold Made
        rw [iz,ck,rI]
        exact Nat.succ_ne_self _
       have pb:¬listed.getD i false=true:=n_ i _ cn br (by omega)
       have FI:∀k,iI ops es aA aE listed (q+1) k→k=i∨iI ops es aA aE listed q k:=by
        rintro k ⟨o,al,aq,aK,bG⟩
        by_cases BT:posOf aE k=q
        · exact .inl (only k o al BT)
        · exact .inr ⟨o,al,aq,aK,by omega⟩
       have fresh:∀b wc,F.ed b=some wc→b≠nameAt es aA aE i:=by
        intro b wc nb heq
        obtain ⟨_,_,j,yR,tK⟩:=S.nz b wc nb
        rw [heq,aX] at tK
        rw [rI] at yR tK
        have:=g' tK
        omega
       have Oq:∀b,b≠nameAt es aA aE i→(F.hold (aC e.h.next) cU).ed b=F.ed b:=by
        intro b Nr
        rw [aX,rI] at Nr
        simp only [Fr.hold,if_neg Nr]
       have Uc:(F.hold (aC e.h.next) cU).ed (nameAt es aA aE i)=some cU:=by
        rw [aX,rI]
        simp only [Fr.hold,if_true]
       have ne:∀k,iI ops es aA aE listed q k→nameAt es aA aE k≠nameAt es aA aE i:=fun k aD=>fresh _ _ (H.new k aD).1
       refine fin (F.hold (aC e.h.next) cU) ⟨H.w,fun b nb=>?_,fun k aD=>?_,fun k bn aD fV he=>?_⟩ aR
       · have mg:b≠nameAt es aA aE i:=fun e=>nb i ⟨_,cn,⟨br,abA⟩,pb,by omega⟩ e.symm
         rw [Oq b mg]
         exact H.b0 b fun k aD=>nb k (by obtain ⟨o,al,aq,aK,bG⟩:=aD;exact ⟨o,al,aq,aK,by omega⟩)
       · rcases FI k aD with rfl | aD
         · refine ⟨by rw [Uc,ai],?_⟩
           cases aj:az.ed (nameAt es aA aE k) with
           | none=>rfl
           | some wc=>
             exfalso
             have:=H.b0 (nameAt es aA aE k) fun bn fV=>ne bn fV
             rw [aj] at this
             exact fresh _ _ this rfl
         · rw [Oq _ (ne k aD)]
           exact H.new k aD
       · rcases FI k aD with rfl | aD<;>rcases FI bn fV with rfl | fV
         · rfl
         · exact absurd he.symm (ne bn fV)
         · exact absurd he (ne k aD)
         · exact H.inj k bn aD fV he
      · refine pass ck fun _ hm=>hm ?_
        rw [iz,ck,rI]
     | false=>
       have dn:er P ops[i].op=false:=by
        unfold dP at kR
        rw [br] at kR
        simpa using kR
       exact pass (sT dn ae).1 fun h=>by rw [br] at h;cases h
structure oJ (P:Program) (az:Fr) (ax:Nat) (ops:Array Oper) (es:List eo) (bF:bx) (aA:af) (dY aE:List Nat) (fQ:Env) (N:Nat) (D:List Deferred) (listed:Array Bool) (a:Act) (w:World):Prop where
 qH:listed.size=ops.size
 size:a.tmps.size=ax
 defers:a.defers=D
 nM:∀k,listed.getD k false=true→posOf aE k<N
 down:oL ops fun k=>listed.getD k false=true
 main:∃E s F,fQ.le E∧s ∈ dY∧s≤N∧(∀k o,ops[k]? =some o→dP P o=true→(listed.getD k false=true↔posOf aE k<s))∧
  (∀k o,ops[k]? =some o→fL o=true→listed.getD k false=true→posOf aE k<s)∧Holds az F es aA aE (iI ops es aA aE listed s)∧a8 F E (b' es aA s) w∧
  ∀t,t≤top→(∃k o e,listed.getD k false=true∧ops[k]? =some o∧o.dst=some t∧es[posOf aE k]? =some e∧Rel E e.v (a.tmps.getD t undef))∨
   ((∀k o,listed.getD k false=true→ops[k]? =some o→o.dst≠some t)∧Rel E (T.get .bad (aC t) bF) (a.tmps.getD t undef))
theorem rA {l:Array Bool} {i:Nat}:l.getD i false=true↔l[i]? =some true:=by
 rw [Array.getD_eq_getD_getElem?]
 cases l[i]? with
 | none=>simp
 | some b=>cases b<;>simp
theorem e4 {l:Array Bool} {i k:Nat} (av:i<l.size):(l.setIfInBounds i true).getD k false=true↔(k=i∨l.getD k false=true):=by
 rw [rA,rA,Array.getElem?_setIfInBounds]
 by_cases h:i=k
 · subst h;simp [av]
 · have:¬k=i:=fun e=>h e.symm
   simp [h,this]
theorem Bb {r:bx} {t:Nat} (aG:t≤top):∀{l:List Oper},T.get .bad (aC t) (mZ r l)=.bad∨(T.get .bad (aC t) (mZ r l)=T.get .bad (aC t) r∧∀o ∈ l,o.dst≠some t)
 | []=>.inr ⟨rfl,fun o aU=>by simp at aU⟩
 | o::os=>by
   simp only [mZ]
   cases aY:o.dst with
   | none=>
     simp only
     rcases Bb (r:=r) aG (l:=os) with h | ⟨aa,ae⟩
     · exact .inl h
     · exact .inr ⟨aa,fun b6 gh=>by
        rcases List.mem_cons.1 gh with rfl | gh
        · rw [aY];simp
        · exact ae b6 gh⟩
   | some d=>
     simp only
     cases ai:Nat.ble d top with
     | true=>
       simp only [cond_true]
       rw [T.hd]
       by_cases tf:d=t
       · subst tf;rw [if_pos rfl];exact .inl rfl
       · rw [if_neg (fun e=>tf (g' e))]
         rcases Bb (r:=r) aG (l:=os) with h | ⟨aa,ae⟩
         · exact .inl h
         · exact .inr ⟨aa,fun b6 gh=>by
            rcases List.mem_cons.1 gh with rfl | gh
            · rw [aY];simpa using tf
            · exact ae b6 gh⟩
     | false=>
       simp only [cond_false]
       have tf:d≠t:=fun e=>by subst e;rw [←Nat.ble_eq] at aG;rw [aG] at ai;cases ai
       rcases Bb (r:=r) aG (l:=os) with h | ⟨aa,ae⟩
       · exact .inl h
       · exact .inr ⟨aa,fun b6 gh=>by
          rcases List.mem_cons.1 gh with rfl | gh
          · rw [aY];simpa using tf
          · exact ae b6 gh⟩
theorem Ba {r:bx}:∀{l:List Oper},T.get .bad ep (mZ r l)=T.get .bad ep r
 | []=>rfl
 | o::os=>by
   simp only [mZ]
   cases aY:o.dst with
   | none=>exact Ba
   | some d=>
     simp only
     cases ai:Nat.ble d top with
     | true=>
       simp only [cond_true]
       rw [T.hd,if_neg (tZ (Nat.le_of_ble_eq_true ai))]
       exact Ba
     | false=>exact Ba
theorem Md {rd:Option Nat} {D:List Deferred} {az:Fr} (bD:ec P) (cH:∀i,fP P (calls i)) (dh:∀i,f' P (calls i)) (C:Cert P ax ops calls es bF bb cL aA dY order aE N M lit) {fQ:Env} {listed:Array Bool} {a:Act} {w:World} (I:oJ P az ax ops es bF aA dY aE fQ N D listed a w)
 {i:Nat} (av:i ∈ Region.ready .any ops listed) (abj:posOf aE i<M) (tn:lit=true→∀o k ok,ops[i]? =some o→jS o=true→ops[k]? =some ok→jS ok=true→posOf aE k<posOf aE i→listed.getD k false=true) {Q:Exit→Act→World→Prop} {K:Act→World→Prop} (dC:∀bk ar,oJ P az ax ops es bF aA dY aE fQ N D (listed.setIfInBounds i true) bk ar→K bk ar)
 (c2:∀ay bk ar x v ab,fQ.le ay→N<ops.size→ops.size≤M→(∃i0 fM,ops[i0]? =some fM∧posOf aE i0=N∧(ct P ax ops fM).run (calls i0) cL aA=.cw v ab)→RegRel0 ay ax (mZ bF ops.toList) bk→bk.defers=D→Rel ay v x→a8 az ay ab ar→Q (.panic (ow x)) bk ar):wpOpIn (b4 rd) 0 P ops Q i K a w:=by
 rw [mem_ready] at av
 obtain ⟨E,s,F,kQ,aR,BV,kW,dT,iP,pd,tA⟩:=I.main
 obtain ⟨n_,o,cn,tg⟩:=av
 have eY:i<ops.size:=(Array.getElem?_eq_some_iff.1 cn).1
 have rK:¬listed.getD i false=true:=by
  rw [rA]
  intro h
  rw [Array.getD_eq_getD_getElem?,h] at n_
  simp at n_
 have NO:=y2 I.down ops.toList [] (fun j=>by simp) (fun k m j aD=>by simp at aD)
 have vt:oL ops fun k=>listed.getD k false=true∨k=i:=by
  intro k ok e aD bl he ai
  rcases aD with aD | rfl
  · exact .inl (I.down k ok e aD bl he ai)
  · rw [cn] at bl;cases bl
    exact .inl (tg e (Array.mem_toList_iff.1 he) (by rw [u0];exact ai))
 have abz:=y2 vt ops.toList [] (fun j=>by simp) (fun k m j aD=>by simp at aD)
 obtain ⟨cB,kX,hv,BS⟩:=C.lE i o cn
 have BS:=BS abj
 have Gu:=C.PB
 have x6:∀k,k≠i→e_ cB k=true→listed.getD k false=true:=by
  intro k aD ai
  rcases abz i cB k kX ai (.inr rfl) with h | h
  · exact h
  · exact absurd h aD
 have hX:=(C.hl i eY).1
 have abO:posOf aE i≤N:=by
  rcases Nat.lt_or_ge N (posOf aE i) with abe | hle
  · exfalso
    have BA:ops.size≤M:=by
     rcases Nat.lt_or_ge M ops.size with h | h
     · have:=(C.tail h).1;omega
     · exact h
    obtain ⟨i0,fM,m0,cy,z2,z3,z4,z5,_⟩:=C.stop (by omega) BA
    have ai:=z5 i o cB cn abe kX
    have aa:=x6 i0 (fun e=>by subst e;omega) ai
    have:=I.nM i0 aa
    omega
  · exact hle
 have uniq:∀(k bn:Nat) (ok jt:Oper) (t:Nat),ops[k]? =some ok→ops[bn]? =some jt→posOf aE k<M→posOf aE bn<M→ok.dst=some t→jt.dst=some t→k=bn:=by
  intro k bn ok jt t aa ae bR cb aI bu
  obtain ⟨mk,_,_,aj⟩:=C.lE k ok aa
  obtain ⟨mk',_,hh,_⟩:=aj bR bn jt ae cb
  unfold ny at hh
  rw [gE] at hh
  by_cases iy:k=bn
  · exact iy
  · rw [if_neg iy,bu,aI] at hh
    simp at hh
 have QJ:jz (b2 ops o)=true→∀t ∈ b2 ops o,Rel E (T.get .bad (aC t) (dS es cL (posOf aE i))) (a.tmps.getD t undef):=by
  intro od t aG
  have vX:t≤top:=by
   have:=List.all_eq_true.1 od t aG
   exact Nat.le_of_ble_eq_true this
  have P2:∀(k:Nat) (ok:Oper),k≠i→posOf aE k<M→ops[k]? =some ok→ok.dst=some t→∃mk,(ef [] ops.toList)[k]? =some mk∧(posOf aE k<posOf aE i→e_ cB k=true)∧(¬posOf aE k<posOf aE i→e_ mk i=true):=by
   intro k ok aD G2 bl aY
   obtain ⟨mk,al,aq,_⟩:=BS k ok bl G2
   refine ⟨mk,al,?_⟩
   unfold ny at aq
   rw [gE,if_neg (fun e=>aD e.symm),aY] at aq
   simp only [Bool.and_eq_true] at aq
   have aK:=aq.1
   rw [show (b2 ops o).contains t=true from by simpa using aG] at aK
   simp only [cond_true] at aK
   refine ⟨fun aN=>?_,fun ix=>?_⟩
   · rw [show Nat.blt (posOf aE k) (posOf aE i)=true from by rw [Nat.blt_eq];exact aN] at aK
     exact aK
   · rw [show Nat.blt (posOf aE k) (posOf aE i)=false from by rw [←Bool.not_eq_true,Nat.blt_eq];exact ix] at aK
     exact aK
  rcases C.Jd (posOf aE i) abO t vX with ⟨k,ok,A8,al,aq,aK,bG,di⟩ | ⟨al,aq⟩
  · obtain ⟨mk,_,c_,_⟩:=P2 k ok (fun e=>by subst e;omega) (by omega) aq aK
    have abu:=x6 k (fun e=>by subst e;omega) (c_ al)
    rcases tA t vX with ⟨bn,jt,F0,b1,cg,cZ,fX,iV⟩ | ⟨b1,_⟩
    · have:=uniq k bn ok jt t aq cg (by omega) (by have:=I.nM bn b1;omega) aK cZ
      subst this
      rw [bG] at fX;cases fX
      rw [di];exact iV
    · exact absurd aK (b1 k ok abu aq)
  · rcases tA t vX with ⟨bn,jt,F0,b1,cg,cZ,fX,iV⟩ | ⟨_,cg⟩
    · have fJ:bn≠i:=fun e=>rK (e ▸ b1)
      obtain ⟨mk,m1,_,cW⟩:=P2 bn jt fJ (by have:=I.nM bn b1;omega) cg cZ
      by_cases aN:posOf aE bn<posOf aE i
      · exact absurd cZ (al bn jt aN cg)
      · exact absurd (NO bn mk i m1 (cW aN) b1) rK
    · rw [aq];exact cg
 have level:er P o.op=true→s≤posOf aE i→s=posOf aE i∧fL o=false:=by
  intro ke hle
  rcases C.RD s aR with (h | ⟨h,Bz⟩) | ⟨k,ok,ck,cJ,gk⟩
  · omega
  · omega
  · have NT:¬listed.getD k false=true:=fun h=>by have:=(kW k ok ck cJ).1 h;omega
    have n0:=(Array.getElem?_eq_some_iff.1 ck).1
    by_cases fJ:k=i
    · subst fJ
      rw [cn] at ck;cases ck
      refine ⟨gk,?_⟩
      unfold dP at cJ
      simpa [ke] using cJ
    · have aN:posOf aE k<posOf aE i:=by
       have:posOf aE k≠posOf aE i:=fun e=>fJ (C.ub n0 eY e)
       omega
      obtain ⟨mk,_,_,aK⟩:=BS k ok ck (by omega)
      rcases aK ke cJ aN with h | ⟨g1,g2,g3⟩
      · exact absurd (x6 k fJ h) NT
      · exact absurd (tn g1 o k ok cn g2 ck g3 aN) NT
 rcases Nat.lt_or_ge (posOf aE i) N with Ha | aky
 case inr=>
  have ib:posOf aE i=N:=by omega
  have BA:ops.size≤M:=by
   rcases Nat.lt_or_ge M ops.size with h | h
   · have:=(C.tail h).1;omega
   · exact h
  obtain ⟨i0,fM,m0,cy,z2,z3,z4,z5,ajQ,v,ab,J3⟩:=C.stop (by omega) BA
  have abl:i0=i:=C.ub (Array.getElem?_eq_some_iff.1 cy).1 eY (by rw [z2,ib])
  subst abl
  rw [cn] at cy;cases cy
  rw [kX] at z4;cases z4
  obtain ⟨ke,abE⟩:=Pq z3
  have vA:dP P o=true:=by unfold dP;rw [ke,abE];rfl
  have HE:s≤posOf aE i0:=by
   rcases Nat.lt_or_ge (posOf aE i0) s with h | h
   · exact absurd ((kW i0 o cn vA).2 h) rK
   · exact h
  have vU:=(level ke HE).1
  have ka:F=az:=iP.none fun k aD=>by
   obtain ⟨ok,al,aq,aK,bG⟩:=aD
   have fJ:k≠i0:=fun e=>by subst e;omega
   exact aK (x6 k fJ (ajQ k ok al aq.1 (by omega)))
  subst ka
  have de:es[N]? =none:=List.getElem?_eq_none (by rw [C.len];exact Nat.le_refl _)
  have jm:=QJ (L7 J3).2
  rw [ib] at jm
  simp only [dS,de] at jm
  rw [vU,ib] at pd
  simp only [b',de] at pd
  refine YW bD (cH i0) (dh i0) cn J3 z3 I.size jm pd fun ay x ar al aq aK=>c2 ay a ar x v ab (kQ.trans al) (by omega) BA ⟨i0,o,cn,ib,J3⟩ ⟨I.size,fun t aG=>?_⟩ I.defers aq aK
  rcases Bb (r:=bF) aG (l:=ops.toList) with h | ⟨aa,ae⟩
  · rw [h];simp [Rel]
  · rw [aa]
    rcases tA t aG with ⟨k,ok,A8,b1,cg,cZ,fX,iV⟩ | ⟨b1,cg⟩
    · exact absurd cZ (ae ok (by rw [←Array.getElem?_toList] at cg;exact List.mem_of_getElem? cg))
    · exact Rel.mono al _ _ cg
 obtain ⟨e,lI,cK,akJ⟩:=C.step i o cn Ha
 have gv:=jc cK
 have eR:dS es cL (posOf aE i)=e.r:=by simp [dS,lI]
 have gJ:b' es aA (posOf aE i)=e.h:=by simp [b',lI]
 have reads:=QJ gv.2
 rw [eR] at reads
 have fs:i<listed.size:=by rw [I.qH];exact eY
 have after:∀(fY:Nat) (dJ:Fr) (ay:Env) (x:Value) (ar:World),fY ∈ dY→fY≤N→(∀k ok,ops[k]? =some ok→dP P ok=true→((k=i∨listed.getD k false=true)↔posOf aE k<fY))→
  (∀k ok,ops[k]? =some ok→fL ok=true→(k=i∨listed.getD k false=true)→posOf aE k<fY)→
  Holds az dJ es aA aE (iI ops es aA aE (listed.setIfInBounds i true) fY)→E.le ay→Rel ay e.v x→a8 dJ ay (b' es aA fY) ar→
  oJ P az ax ops es bF aA dY aE fQ N D (listed.setIfInBounds i true) (a.put o.dst x) ar:=by
  intro fY dJ ay x ar gT ab7 eA aaL abf hle au ab5
  refine ⟨by simp [I.qH],by cases h:o.dst<;>simp [Act.put,I.size],by cases h:o.dst<;>simp [Act.put,I.defers],fun k aD=>by
   rcases (e4 fs).1 aD with rfl | aD
   · exact Ha
   · exact I.nM k aD,?_,ay,fY,dJ,kQ.trans hle,gT,ab7,fun k ok aa ae=>by rw [e4 fs];exact eA k ok aa ae,
   fun k ok aa ae aI=>aaL k ok aa ae ((e4 fs).1 aI),abf,ab5,fun t aG=>?_⟩
  · intro k ok db aD bl dO ai
    rw [e4 fs] at aD ⊢
    rcases vt k ok db aD.symm bl dO ai with h | h
    · exact .inr h
    · exact .inl h
  · by_cases aY:o.dst=some t
    · refine .inl ⟨i,o,e,by rw [e4 fs];exact .inl rfl,cn,aY,lI,?_⟩
      have aN:t<a.tmps.size:=by
       have:=gv.1
       rw [aY] at this
       simp only [eI,Bool.and_eq_true,Nat.blt_eq] at this
       rw [I.size];exact this.1
      rw [aY]
      simp only [Act.put]
      rw [Array.getD_eq_getD_getElem?,Array.getElem?_setIfInBounds,if_pos rfl,if_pos aN]
      exact au
    · have dy:(a.put o.dst x).tmps.getD t undef=a.tmps.getD t undef:=by
       cases Hn:o.dst with
       | none=>rfl
       | some d=>
         simp only [Act.put]
         rw [Array.getD_eq_getD_getElem?,Array.getD_eq_getD_getElem?,Array.getElem?_setIfInBounds,if_neg (fun e=>aY (by rw [Hn,e]))]
      rw [dy]
      rcases tA t aG with ⟨k,ok,A8,b1,cg,cZ,fX,iV⟩ | ⟨b1,cg⟩
      · exact .inl ⟨k,ok,A8,by rw [e4 fs];exact .inr b1,cg,cZ,fX,Rel.mono hle _ _ iV⟩
      · refine .inr ⟨fun k ok aD bl=>?_,Rel.mono hle _ _ cg⟩
        rw [e4 fs] at aD
        rcases aD with rfl | aD
        · rw [cn] at bl;cases bl;exact aY
        · exact b1 k ok aD bl
 have GM:¬(fL o=true∧Made es aA aE i)→∀fY k,iI ops es aA aE (listed.setIfInBounds i true) fY k↔iI ops es aA aE listed fY k:=by
  intro br fY k
  constructor
  · rintro ⟨ok,al,aq,aK,bG⟩
    exact ⟨ok,al,aq,fun h=>aK ((e4 fs).2 (.inr h)),bG⟩
  · rintro ⟨ok,al,aq,aK,bG⟩
    refine ⟨ok,al,aq,fun h=>?_,bG⟩
    rcases (e4 fs).1 h with rfl | h
    · rw [cn] at al;cases al;exact br aq
    · exact aK h
 cases ke:er P o.op with
 | true=>
   cases br:fL o with
   | true=>
     have aN:posOf aE i<s:=by
      rcases Nat.lt_or_ge (posOf aE i) s with h | h
      · exact h
      · have:=(level ke h).2
        rw [br] at this;cases this
     by_cases hm:Made es aA aE i
     case neg=>
      have HA:(ct P ax ops o).run (calls i) e.r (b' es aA s)=.val e.v (b' es aA s):=by
       rcases L9 br cK with ⟨cU,ck,_⟩ | ⟨_,ck⟩
       · exact absurd (show Made es aA aE i from by unfold Made;rw [ck,gJ];exact Nat.succ_ne_self _) hm
       · exact ck _
      refine oX bD (cH i) (dh i) cn HA I.size reads pd fun ay x ar al aq aK=>dC _ _ (after s F ay x ar aR BV (fun k ok bl ia=>?_) (fun k ok bl nZ aD=>?_) (iP.congr fun k=>GM (fun h=>hm h.2) s k) al aq aK)
      · constructor
        · rintro (rfl | h)
          · rw [cn] at bl;cases bl
            unfold dP at ia
            rw [br] at ia
            simp at ia
          · exact (kW k ok bl ia).1 h
        · intro h
          exact .inr ((kW k ok bl ia).2 h)
      · rcases aD with rfl | aD
        · exact aN
        · exact dT k ok bl nZ aD
     have jO:iI ops es aA aE listed s i:=⟨o,cn,⟨br,hm⟩,rK,aN⟩
     have Hc:(b' es aA (posOf aE i+1)).next≠e.h.next:=by rw [←gJ];exact hm
     have lO:nameAt es aA aE i=aC e.h.next:=by unfold nameAt;rw [gJ]
     have k0:=(iP.new i jO).1
     have v8:=(iP.new i jO).2
     have iv:xD es aA aE i=(b' es aA (posOf aE i+1)).get (aC e.h.next):=by unfold xD;rw [lO]
     rw [lO,iv] at k0
     refine YU cn br cK I.size reads pd Hc k0 fun ay x ar al aq aK=>dC _ _ (after s (F.free (aC e.h.next)) ay x ar aR BV (fun k ok bl ia=>?_) (fun k ok bl nZ aD=>?_) ?_ al aq aK)
     · constructor
       · rintro (rfl | h)
         · rw [cn] at bl;cases bl
           unfold dP at ia
           rw [br] at ia
           simp at ia
         · exact (kW k ok bl ia).1 h
       · intro h
         exact .inr ((kW k ok bl ia).2 h)
     · rcases aD with rfl | aD
       · exact aN
       · exact dT k ok bl nZ aD
     · have sub:∀k,iI ops es aA aE (listed.setIfInBounds i true) s k→iI ops es aA aE listed s k∧k≠i:=by
        rintro k ⟨ok,al,aq,aK,bG⟩
        refine ⟨⟨ok,al,aq,fun h=>aK ((e4 fs).2 (.inr h)),bG⟩,fun e=>aK ((e4 fs).2 (.inl e))⟩
       refine ⟨iP.w,fun b ai=>?_,fun k aD=>?_,fun k bn aD fV=>iP.inj k bn (sub k aD).1 (sub bn fV).1⟩
       · by_cases mg:b=aC e.h.next
         · subst mg
           simp only [Fr.free,if_true]
           rw [←lO,v8]
         · simp only [Fr.free,if_neg mg]
           refine iP.b0 b fun k aD=>?_
           by_cases fJ:k=i
           · subst fJ;rw [lO];exact fun e=>mg e.symm
           · obtain ⟨ok,al,aq,aK,bG⟩:=aD
             refine ai k ⟨ok,al,aq,fun h=>?_,bG⟩
             rcases (e4 fs).1 h with h | h
             · exact fJ h
             · exact aK h
       · obtain ⟨vG,fJ⟩:=sub k aD
         have dn:nameAt es aA aE k≠aC e.h.next:=fun e=>fJ (iP.inj k i vG jO (by rw [e,lO]))
         simp only [Fr.free,if_neg dn]
         exact iP.new k vG
   | false=>
     have vA:dP P o=true:=by unfold dP;rw [ke,br];rfl
     have HE:s≤posOf aE i:=by
      rcases Nat.lt_or_ge (posOf aE i) s with h | h
      · exact absurd ((kW i o cn vA).2 h) rK
      · exact h
     have vU:=(level ke HE).1
     rw [←gJ,←vU] at cK
     refine oX bD (cH i) (dh i) cn cK I.size reads pd fun ay x ar al aq aK=>?_
     rw [vU] at aK
     have abt:∀k ok,ops[k]? =some ok→fL ok=true→posOf aE i+1≤posOf aE k→¬(listed.setIfInBounds i true).getD k false=true:=by
      intro k ok bl nZ aj h
      rcases (e4 fs).1 h with rfl | h
      · omega
      · have:=dT k ok bl nZ h
        omega
     have abi:Holds az F es aA aE (iI ops es aA aE (listed.setIfInBounds i true) (posOf aE i+1)):=by
      refine iP.congr fun k=>?_
      rw [GM (fun h=>by rw [br] at h;cases h.1)]
      constructor
      · rintro ⟨ok,cy,z2,z3,z4⟩
        refine ⟨ok,cy,z2,z3,?_⟩
        have n0:=(Array.getElem?_eq_some_iff.1 cy).1
        have:posOf aE k≠posOf aE i:=fun e=>by
         have:=C.ub n0 eY e
         subst this
         rw [cn] at cy;cases cy
         rw [br] at z2;cases z2.1
        omega
      · rintro ⟨ok,cy,z2,z3,z4⟩
        exact ⟨ok,cy,z2,z3,by omega⟩
     obtain ⟨fY,dJ,g1,g2,g3,g4,g5,g6⟩:=C.advance (N - (posOf aE i+1)) (posOf aE i+1) (by omega) abt F abi aK
     refine dC _ _ (after fY dJ ay x ar g1 g3 (fun k ok bl ia=>?_) (fun k ok bl nZ aD=>?_) g5 al aq g6)
     · have n0:=(Array.getElem?_eq_some_iff.1 bl).1
       constructor
       · rintro (rfl | h)
         · omega
         · have:=(kW k ok bl ia).1 h
           omega
       · intro h
         by_cases fJ:k=i
         · exact .inl fJ
         · refine .inr ((kW k ok bl ia).2 ?_)
           rcases Nat.lt_or_ge (posOf aE k) s with ba | ba
           · exact ba
           · have dn:posOf aE k≠posOf aE i:=fun e=>fJ (C.ub n0 eY e)
             have:=g4 k ok bl ia (by omega)
             omega
     · rcases aD with rfl | aD
       · omega
       · have:=dT k ok bl nZ aD
         omega
 | false=>
   have br:fL o=false:=by
    cases h:fL o with
    | false=>rfl
    | true=>rw [acQ h] at ke;cases ke
   obtain ⟨c,aw,HA⟩:∃c,(fP P c∧f' P c)∧(ct P ax ops o).run c e.r (b' es aA s)=.val e.v (b' es aA s):=by
    cases dI:looks o.op with
    | false=>exact ⟨_,⟨cH i,dh i⟩,(sT ke cK).2 dI _⟩
    | true=>
      obtain ⟨db,al,aq⟩:=C.ask i o cn dI ke Ha
      rw [lI] at al;cases al
      obtain ⟨c,ab,aw,aK⟩:=aq s aR (J4 (by rw [Io];simp) fun k mk ok aa ae=>by
       simp only [Nat.zero_add]
       have bl:ops[k]? =some ok:=by simpa using ae
       cases tp:dP P ok with
       | false=>rfl
       | true=>
         simp only [cond_true]
         cases jQ:Nat.blt (posOf aE k) s with
         | true=>
           rw [Nat.blt_eq] at jQ
           simp only [cond_true,Bool.not_eq_true']
           cases ai:e_ mk i with
           | false=>rfl
           | true=>exact absurd (NO k mk i aa ai ((kW k ok bl tp).2 jQ)) rK
         | false=>
           have abq:¬posOf aE k<s:=by rw [←Nat.blt_eq,jQ];simp
           simp only [cond_false,Bool.not_eq_true',kX,Option.getD_some]
           cases ai:e_ cB k with
           | false=>rfl
           | true=>
             by_cases fJ:k=i
             · subst fJ
               rw [cn] at bl;cases bl
               unfold dP at tp
               rw [ke] at tp;cases tp
             · exact absurd ((kW k ok bl tp).1 (x6 k fJ ai)) abq)
      rw [(sT ke aK).1] at aK
      exact ⟨c,aw,aK⟩
   refine oX bD aw.1 aw.2 cn HA I.size reads pd fun ay x ar al aq aK=>dC _ _ (after s F ay x ar aR BV (fun k ok bl ia=>?_) (fun k ok bl nZ aD=>?_) (iP.congr fun k=>GM (fun h=>by rw [br] at h;cases h.1) s k) al aq aK)
   · constructor
     · rintro (rfl | h)
       · rw [cn] at bl;cases bl
         unfold dP at ia
         rw [ke] at ia;cases ia
       · exact (kW k ok bl ia).1 h
     · intro h
       exact .inr ((kW k ok bl ia).2 h)
   · rcases aD with rfl | aD
     · rw [cn] at bl;cases bl;rw [br] at nZ;cases nZ
     · exact dT k ok bl nZ aD
theorem L6 {D:List Deferred} {az:Fr} (C:Cert P ax ops calls es bF bb cL aA dY order aE N M lit) {fQ:Env} (Gu:N≤M) {listed:Array Bool} {a:Act} {w:World} (I:oJ P az ax ops es bF aA dY aE fQ N D listed a w)
 (dT:∀k,k<ops.size→posOf aE k<N→listed.getD k false=true):∃ay,fQ.le ay∧RegRel0 ay ax cL a∧a.defers=D∧a8 az ay aA w:=by
 obtain ⟨E,s,F,kQ,aR,BV,kW,_,iP,pd,tA⟩:=I.main
 have de:es[N]? =none:=List.getElem?_eq_none (by rw [C.len];exact Nat.le_refl _)
 have o':b' es aA N=aA:=by simp [b',de]
 have N4:dS es cL N=cL:=by simp [dS,de]
 have vU:s=N:=by
  rcases C.RD s aR with (h | ⟨h,_⟩) | ⟨k,ok,ck,cJ,gk⟩
  · have:=C.y';omega
  · exact h
  · rcases Nat.lt_or_ge s N with aN | ix
    · have:=(kW k ok ck cJ).1 (dT k (Array.getElem?_eq_some_iff.1 ck).1 (by omega))
      omega
    · omega
 subst vU
 have ka:F=az:=iP.none fun k aD=>by
  obtain ⟨ok,al,aq,aK,bG⟩:=aD
  exact aK (dT k (Array.getElem?_eq_some_iff.1 al).1 bG)
 subst ka
 rw [o'] at pd
 have Bz:∀k,posOf aE k<s→posOf aE k<M:=fun k h=>by omega
 refine ⟨E,kQ,⟨I.size,fun t aG=>?_⟩,I.defers,pd⟩
 have acg:∀(k bn:Nat) (ok jt:Oper),ops[k]? =some ok→ops[bn]? =some jt→posOf aE k<s→posOf aE bn<s→ok.dst=some t→jt.dst=some t→k=bn:=by
  intro k bn ok jt aa ae bR cb aI bu
  obtain ⟨mk,_,_,aj⟩:=C.lE k ok aa
  obtain ⟨mk',_,hh,_⟩:=aj (Bz k bR) bn jt ae (Bz bn cb)
  unfold ny at hh
  rw [gE] at hh
  by_cases iy:k=bn
  · exact iy
  · rw [if_neg iy,bu,aI] at hh
    simp at hh
 rcases C.Jd s (Nat.le_refl _) t aG with ⟨k,ok,A8,al,aq,aK,bG,di⟩ | ⟨al,aq⟩
 · rw [N4] at di
   rcases tA t aG with ⟨bn,jt,F0,b1,cg,cZ,fX,iV⟩ | ⟨b1,_⟩
   · have:=acg k bn ok jt aq cg al (I.nM bn b1) aK cZ
     subst this
     rw [bG] at fX;cases fX
     rw [di];exact iV
   · exact absurd aK (b1 k ok (dT k (Array.getElem?_eq_some_iff.1 aq).1 al) aq)
 · rw [N4] at aq
   rcases tA t aG with ⟨bn,jt,F0,b1,cg,cZ,fX,iV⟩ | ⟨_,cg⟩
   · exact absurd cZ (al bn jt (I.nM bn b1) cg)
   · rw [aq];exact cg
theorem Mc {rd:Option Nat} {D:List Deferred} {az:Fr} (bD:ec P) (cH:∀i,fP P (calls i)) (dh:∀i,f' P (calls i)) (C:Cert P ax ops calls es bF bb cL aA dY order aE N M false) {fQ:Env} {Q:Exit→Act→World→Prop}
 (c2:N=ops.size→∀ay bk ar,fQ.le ay→RegRel0 ay ax cL bk→bk.defers=D→a8 az ay aA ar→Q .normal bk ar)
 (fT:∀ay bk ar x v ab,fQ.le ay→N<ops.size→ops.size≤M→(∃i0 fM,ops[i0]? =some fM∧posOf aE i0=N∧(ct P ax ops fM).run (calls i0) cL aA=.cw v ab)→RegRel0 ay ax (mZ bF ops.toList) bk→bk.defers=D→Rel ay v x→a8 az ay ab ar→Q (.panic (ow x)) bk ar)
 (dH:M<ops.size→∀(fuel:Nat) (listed:Array Bool) ay bk ar,(List.range ops.size).countP (fun i=>!listed.getD i false)≤fuel→listed.size=ops.size→oL ops (fun k=>listed.getD k false=true)→(∀k,k<ops.size→(listed.getD k false=true↔posOf aE k<N))→
   fQ.le ay→RegRel0 ay ax cL bk→bk.defers=D→a8 az ay aA ar→wpAnyIn (b4 rd) 0 P .any ops Q fuel listed bk ar):∀(fuel:Nat) (listed:Array Bool) (a:Act) (w:World),(List.range ops.size).countP (fun i=>!listed.getD i false)≤fuel→
 oJ P az ax ops es bF aA dY aE fQ N D listed a w→wpAnyIn (b4 rd) 0 P .any ops Q fuel listed a w:=by
 have done:∀(listed:Array Bool) (a:Act) (w:World),oJ P az ax ops es bF aA dY aE fQ N D listed a w→Region.ready .any ops listed=[]→∀i,i<ops.size→listed.getD i false=true:=by
  intro listed a w I aJ i
  induction i using Nat.strongRecOn with
  | _ i bg=>
    intro av
    cases fs:listed.getD i false with
    | true=>rfl
    | false=>
      exfalso
      have cn:ops[i]? =some ops[i]:=Array.getElem?_eq_getElem av
      obtain ⟨cB,_,hv,_⟩:=C.lE i _ cn
      have:i ∈ Region.ready .any ops listed:=by
       rw [mem_ready]
       refine ⟨?_,ops[i],cn,fun e he ai=>?_⟩
       · have b7:i<listed.size:=by rw [I.qH];exact av
         rw [Array.getD_eq_getD_getElem?,Array.getElem?_eq_getElem b7] at fs ⊢
         exact fs
       · have aa:=List.all_eq_true.1 hv e (Array.mem_toList_iff.2 he)
         rw [u0] at ai
         rw [ai] at aa
         simp only [Bool.not_true,Bool.false_or,Nat.blt_eq] at aa
         exact bg e.on aa (by omega)
      rw [aJ] at this
      simp at this
 have Gu:=C.PB
 have full:∀(listed:Array Bool) (a:Act) (w:World),oJ P az ax ops es bF aA dY aE fQ N D listed a w→(∀k,k<ops.size→posOf aE k<N→listed.getD k false=true)→(N=ops.size∨(M<ops.size∧M=N))→
  ∃ay,fQ.le ay∧RegRel0 ay ax cL a∧a.defers=D∧a8 az ay aA w:=fun _ _ _ I dT _=>L6 C Gu I dT
 have finish:∀(listed:Array Bool) (a:Act) (w:World),oJ P az ax ops es bF aA dY aE fQ N D listed a w→Region.ready .any ops listed=[]→Q .normal a w:=by
  intro listed a w I aJ
  have dT:=done listed a w I aJ
  have Gv:N=ops.size:=by
   rcases Nat.lt_or_ge N ops.size with aN | ix
   · exfalso
     obtain ⟨i,tm,mh⟩:=C.j1 N aN
     have:=I.nM i (dT i tm)
     omega
   · exact Nat.le_antisymm C.y' ix
  obtain ⟨ay,g1,g2,g3,g4⟩:=full listed a w I (fun k aD _=>dT k aD) (.inl Gv)
  exact c2 Gv ay a w g1 g2 g3 g4
 intro fuel
 induction fuel with
 | zero=>
   intro listed a w aw I
   have dT:∀i,i<ops.size→listed.getD i false=true:=by
    intro i av
    have bb:(List.range ops.size).countP (fun i=>!listed.getD i false)=0:=by omega
    rw [List.countP_eq_zero] at bb
    simpa using bb i (List.mem_range.2 av)
   have aJ:Region.ready .any ops listed=[]:=by
    cases aF:Region.ready .any ops listed with
    | nil=>rfl
    | cons j acX=>
      exfalso
      have bH:j ∈ Region.ready .any ops listed:=by rw [aF];simp
      rw [mem_ready] at bH
      obtain ⟨aa,o,ae,_⟩:=bH
      have:=dT j (Array.getElem?_eq_some_iff.1 ae).1
      rw [rA] at this
      rw [Array.getD_eq_getD_getElem?,this] at aa
      simp at aa
   exact ⟨aJ,finish listed a w I aJ⟩
 | succ fuel bg=>
   intro listed a w aw I
   by_cases BW:M<ops.size∧∀k,k<ops.size→posOf aE k<N→listed.getD k false=true
   · obtain ⟨s',dT⟩:=BW
     obtain ⟨ay,g1,g2,g3,g4⟩:=full listed a w I dT (.inr ⟨s',(C.tail s').1⟩)
     exact dH s' (fuel+1) listed ay a w aw I.qH I.down (fun k aD=>⟨I.nM k,dT k aD⟩) g1 g2 g3 g4
   have yw:∀i,i ∈ Region.ready .any ops listed→posOf aE i<M:=by
    intro i av
    have mh:=av
    rw [mem_ready] at mh
    obtain ⟨aa,o,ae,tg⟩:=mh
    have eY:i<ops.size:=(Array.getElem?_eq_some_iff.1 ae).1
    rcases Nat.lt_or_ge M ops.size with s' | s'
    · obtain ⟨Bz,vV⟩:=C.tail s'
      rcases Nat.lt_or_ge (posOf aE i) N with aN | ix
      · omega
      · exfalso
        refine BW ⟨s',fun k aD G3=>?_⟩
        obtain ⟨cB,kX,_⟩:=C.lE i o ae
        have ai:=vV i o cB ae ix kX k aD G3
        have vt:oL ops fun k=>listed.getD k false=true∨k=i:=by
         intro k ok e aD bl he ai
         rcases aD with aD | rfl
         · exact .inl (I.down k ok e aD bl he ai)
         · rw [ae] at bl;cases bl
           exact .inl (tg e (Array.mem_toList_iff.1 he) (by rw [u0];exact ai))
        rcases y2 vt ops.toList [] (fun j=>by simp) (fun k m j aD=>by simp at aD) i cB k kX ai (.inr rfl) with h | h
        · exact h
        · subst h;omega
    · have:=(C.hl i eY).1
      omega
   refine ⟨fun aJ=>finish listed a w I aJ,fun i av=>?_⟩
   refine Md bD cH dh C I av (yw i av) (fun h=>by cases h) (fun bk ar DO=>bg _ bk ar ?_ DO) fT
   have mh:=av
   rw [mem_ready] at mh
   obtain ⟨aa,o,ae,_⟩:=mh
   have eY:i<ops.size:=(Array.getElem?_eq_some_iff.1 ae).1
   have fs:i<listed.size:=by rw [I.qH];exact eY
   have rK:listed.getD i false=false:=by
    rw [Array.getD_eq_getD_getElem?,Array.getElem?_eq_getElem fs] at aa ⊢
    exact aa
   have:=A1 (fun k=>!listed.getD k false) (fun k=>!(listed.setIfInBounds i true).getD k false) (List.range ops.size)
    (fun k _ aD=>by
      simp only [Bool.not_eq_true'] at aD ⊢
      cases aF:listed.getD k false with
      | false=>rfl
      | true=>
        have:=(e4 (k:=k) fs).2 (.inr aF)
        rw [aD] at this
        cases this)
    ⟨i,List.mem_range.2 eY,by simp [rK],by
      have:=(e4 (k:=i) fs).2 (.inl rfl)
      simp [this]⟩
   omega
theorem af.set_comm (h:af) {b bJ:aQ} (dn:b≠bJ) (k bn:b3):(h.set b k).set bJ bn=(h.set bJ bn).set b k:=by
 unfold af.set
 simp only
 rw [T.put_comm _ _ _ _ _ _ (fun e=>dn e.symm)]
theorem JF {o:Oper} {x:Operand} (h:qX o=some x):∃t y,o.op=.store t x y∧o.dst=none∧o.guard=none:=by
 unfold qX at h
 split at h
 case h_2=>cases h
 rename_i t R' y aU
 split at h
 case h_2=>cases h
 rename_i aY
 split at h
 case h_2=>cases h
 rename_i aH
 cases h
 exact ⟨t,y,aU,aY,aH⟩
theorem aeZ {h ab:af} {b:aQ} {off:Nat} {ad:List V} (he:lay h b off ad=some ab):∃k,ab=h.set b k∧∀H:af,H.get b=h.get b→lay H b off ad=some (H.set b k):=by
 unfold lay at he ⊢
 cases aH:h.get b<;>rw [aH] at he<;>simp only [b3.on] at he<;>try (cases he;done)
 obtain ⟨aw,aa⟩:=dW he
 cases aa
 refine ⟨_,rfl,fun H jO=>?_⟩
 rw [jO]
 simp only [b3.on,aw,cond_true]
theorem L_ {all:Array Oper} {o:Oper} {x:Operand} {call:du} {r:bx} {h ab:af} {v:V} (au:qX o=some x) (he:(ct P ax all o).run call r h=.val v ab):
 ∃b off k,(bO x).run (df r (b2 all o))=.ptr b off∧ab=h.set b k∧∀H:af,H.get b=h.get b→(ct P ax all o).run call r H=.val v (H.set b k):=by
 obtain ⟨t,y,aU,aY,aH⟩:=JF au
 obtain ⟨aa,ae⟩:=jc he
 have key:ct P ax all o=⟨hU none (eG P o) (b2 all o)⟩:=by
  unfold ct
  rw [show (eI ax o.dst&&jz (b2 all o))=true from by rw [aa,ae];rfl,aH]
  rfl
 rw [key] at he ⊢
 simp only [hU] at he ⊢
 have tb:∀H,(eG P o).run call (df r (b2 all o)) H=gO .bad ((qW P t).run H ((bO x).run (df r (b2 all o))) ((bO y).run (df r (b2 all o)))):=by
  intro H
  unfold eG
  rw [aU]
 rw [tb] at he
 cases aR:(qW P t).run h ((bO x).run (df r (b2 all o))) ((bO y).run (df r (b2 all o))) with
 | none=>rw [aR] at he;cases he
 | some aI=>
   rw [aR] at he
   simp only [gO,aZ.val.injEq] at he
   obtain ⟨rfl,rfl⟩:=he
   unfold qW at aR
   cases aG:a' P t with
   | none=>rw [aG] at aR;cases aR
   | some aP=>
     rw [aG] at aR
     simp only [oC] at aR
     obtain ⟨b,off,aj,bu⟩:=wE aR
     obtain ⟨aw,cf⟩:=dW bu
     obtain ⟨k,ck,cJ⟩:=aeZ cf
     refine ⟨b,off,k,aj,ck,fun H jO=>?_⟩
     rw [tb]
     unfold qW
     rw [aG]
     simp only [oC,aj,V.h1,aw,cond_true,cJ H jO,gO]
theorem wL {listed:Array Bool} (hv:∀i o,ops[i]? =some o→k8 i o=true) (b7:listed.size=ops.size) (aJ:Region.ready .any ops listed=[]):∀i,i<ops.size→listed.getD i false=true:=by
 intro i
 induction i using Nat.strongRecOn with
 | _ i bg=>
   intro av
   cases fs:listed.getD i false with
   | true=>rfl
   | false=>
     exfalso
     have cn:ops[i]? =some ops[i]:=Array.getElem?_eq_getElem av
     have hv:=hv i _ cn
     have:i ∈ Region.ready .any ops listed:=by
      rw [mem_ready]
      refine ⟨?_,ops[i],cn,fun e he ai=>?_⟩
      · have aR:i<listed.size:=by rw [b7];exact av
        rw [Array.getD_eq_getD_getElem?,Array.getElem?_eq_getElem aR] at fs ⊢
        exact fs
      · have aa:=List.all_eq_true.1 hv e (Array.mem_toList_iff.2 he)
        rw [u0] at ai
        rw [ai] at aa
        simp only [Bool.not_true,Bool.false_or,Nat.blt_eq] at aa
        exact bg e.on aa (by omega)
     rw [aJ] at this
     simp at this
theorem ue {listed:Array Bool} {i:Nat} (aj2:listed.size=ops.size) (av:i ∈ Region.ready .any ops listed):i<ops.size∧¬listed.getD i false=true:=by
 rw [mem_ready] at av
 obtain ⟨aa,o,ae,_⟩:=av
 refine ⟨(Array.getElem?_eq_some_iff.1 ae).1,fun h=>?_⟩
 rw [rA] at h
 rw [Array.getD_eq_getD_getElem?,h] at aa
 simp at aa
theorem JM {rd:Option Nat} {az:Fr} (bD:ec P) (cH:fP P call) (dh:f' P call) (hv:∀i o,ops[i]? =some o→k8 i o=true) {i:Nat} {o:Oper} (cn:ops[i]? =some o) (aY:o.dst=none) {r:bx} {h ab:af} {v:V}
 (he:(ct P ax ops o).run call r h=.val v ab) {Q:Exit→Act→World→Prop} {E:Env} {a:Act} {w:World} (k:eP E ax r a) (s:a8 az E h w) (c2:∀ay ar,E.le ay→a8 az ay ab ar→Q .normal a ar)
 {listed:Array Bool} (b7:listed.size=ops.size) (dT:∀j,j<ops.size→(listed.getD j false=true↔j≠i)) (fuel:Nat) (aA:1≤fuel):wpAnyIn (b4 rd) 0 P .any ops Q fuel listed a w:=by
 have eY:i<ops.size:=(Array.getElem?_eq_some_iff.1 cn).1
 have fs:i<listed.size:=by rw [b7];exact eY
 cases fuel with
 | zero=>omega
 | succ fuel=>
   refine ⟨fun aJ=>absurd (wL hv b7 aJ i eY) (fun h=>((dT i eY).1 h) rfl),fun j bH=>?_⟩
   obtain ⟨yR,tK⟩:=ue b7 bH
   have o_:j=i:=by
    rcases Nat.decEq j i with dn | he
    · exact absurd ((dT j yR).2 dn) tK
    · exact he
   subst o_
   refine oX bD cH dh cn he k.size (fun t aG=>k.an t (Nat.le_of_ble_eq_true (List.all_eq_true.1 (jc he).2 t aG))) s fun ay x ar al aq aK=>?_
   rw [aY]
   refine wpAnyIn_done ?_ (c2 ay ar al aK) fuel
   cases aJ:Region.ready .any ops (listed.setIfInBounds j true) with
   | nil=>rfl
   | cons m ms=>
     exfalso
     have hm:m ∈ Region.ready .any ops (listed.setIfInBounds j true):=by rw [aJ];simp
     obtain ⟨m1,m2⟩:=ue (by simp [b7]) hm
     refine m2 ((e4 fs).2 ?_)
     by_cases NP:m=j
     · exact .inl NP
     · exact .inr ((dT m m1).2 NP)
theorem aiR {rd:Option Nat} {az:Fr} (bD:ec P) (cH:fP P call) (dh:f' P call) (hv:∀i o,ops[i]? =some o→k8 i o=true) {i j:Nat} {o p:Oper} (cn:ops[i]? =some o) (mi:ops[j]? =some p) (lK:i≠j) (aY:o.dst=none) (k0:p.dst=none)
 {r:bx} {h aa fB ae:af} {v cG u fZ:V} (he:(ct P ax ops o).run call r h=.val v aa) (aj:(ct P ax ops p).run call r aa=.val u ae) (gi:(ct P ax ops p).run call r h=.val fZ fB) (dO:(ct P ax ops o).run call r fB=.val cG ae)
 {Q:Exit→Act→World→Prop} {E:Env} {a:Act} {w:World} (k:eP E ax r a) (s:a8 az E h w) (c2:∀ay ar,E.le ay→a8 az ay ae ar→Q .normal a ar)
 {listed:Array Bool} (b7:listed.size=ops.size) (dT:∀m,m<ops.size→(listed.getD m false=true↔(m≠i∧m≠j))) (fuel:Nat) (aA:2≤fuel):wpAnyIn (b4 rd) 0 P .any ops Q fuel listed a w:=by
 have eY:i<ops.size:=(Array.getElem?_eq_some_iff.1 cn).1
 have GZ:j<ops.size:=(Array.getElem?_eq_some_iff.1 mi).1
 have jm:∀{q:Oper} {H iY:af} {z:V},(ct P ax ops q).run call r H=.val z iY→∀t ∈ b2 ops q,Rel E (T.get .bad (aC t) r) (a.tmps.getD t undef):=
  fun he t aG=>k.an t (Nat.le_of_ble_eq_true (List.all_eq_true.1 (jc he).2 t aG))
 cases fuel with
 | zero=>omega
 | succ fuel=>
   refine ⟨fun aJ=>absurd (wL hv b7 aJ i eY) (fun h=>((dT i eY).1 h).1 rfl),fun m hm=>?_⟩
   obtain ⟨m1,m2⟩:=ue b7 hm
   have gS:m=i∨m=j:=by
    rcases Nat.decEq m i with dn | he
    · rcases Nat.decEq m j with abG | dX
      · exact absurd ((dT m m1).2 ⟨dn,abG⟩) m2
      · exact .inr dX
    · exact .inl he
   rcases gS with rfl | rfl
   · refine oX bD cH dh cn he k.size (jm he) s fun ay x ar al aq aK=>?_
     rw [aY]
     have fs:m<listed.size:=by rw [b7];exact eY
     refine JM bD cH dh hv mi k0 aj (k.mono al) aK (fun bV bQ b1 cg=>c2 bV bQ (al.trans b1) cg) (by simp [b7]) (fun z bj=>?_) fuel (by omega)
     rw [e4 fs,dT z bj]
     constructor
     · rintro (rfl | h)
       · exact lK
       · exact h.2
     · intro h
       by_cases yK:z=m
       · exact .inl yK
       · exact .inr ⟨yK,h⟩
   · refine oX bD cH dh mi gi k.size (jm gi) s fun ay x ar al aq aK=>?_
     rw [k0]
     have fs:m<listed.size:=by rw [b7];exact GZ
     refine JM bD cH dh hv cn aY dO (k.mono al) aK (fun bV bQ b1 cg=>c2 bV bQ (al.trans b1) cg) (by simp [b7]) (fun z bj=>?_) fuel (by omega)
     rw [e4 fs,dT z bj]
     constructor
     · rintro (rfl | h)
       · exact fun e=>lK e.symm
       · exact h.1
     · intro h
       by_cases yK:z=m
       · exact .inl yK
       · exact .inr ⟨h,yK⟩
theorem R6 {rd:Option Nat} {id:Nat} {a:Act} {w:World} {Q:Exit→Act→World→Prop} (hm:P.follows .mixedOrders=true)
 (h:wpAnyIn (b4 rd) 0 P .any ops Q ops.size (Array.replicate ops.size false) a {w with drawn:=w.drawn+1}):(Code.region id ops true).wpIn (b4 rd) 0 P Q a w:=by
 refine wpIn_region_draw fun t=>?_
 rw [hm]
 exact wpAnyIn_sound _ _ _ _ _ h
theorem JQ {r bt:bx}:∀{rs:List Nat},(∀t ∈ rs,T.get .bad (aC t) bt=T.get .bad (aC t) r)→df bt rs=df r rs
 | [],_=>rfl
 | t::cx,h=>by
   simp only [df]
   rw [h t (by simp),JQ (rs:=cx) fun u hu=>h u (by simp [hu])]
theorem YS {all:Array Oper} {o:Oper} {call:du} {r bt:bx} (h:∀t ∈ b2 all o,T.get .bad (aC t) bt=T.get .bad (aC t) r) (H:af):(ct P ax all o).run call bt H=(ct P ax all o).run call r H:=by
 unfold ct
 cases aw:(eI ax o.dst&&jz (b2 all o)) with
 | false=>rfl
 | true=>
   simp only [cond_true]
   cases aH:o.guard with
   | none=>simp only [hU,JQ h]
   | some og=>
     obtain ⟨j,want⟩:=og
     simp only
     cases all[j]? with
     | none=>rfl
     | some g=>
       simp only
       cases g.dst with
       | none=>rfl
       | some d=>
         simp only
         cases (Nat.blt d ax&&Nat.ble d top) with
         | false=>rfl
         | true=>simp only [cond_true,hU,JQ h]
theorem aiQ {rd:Option Nat} {az:Fr} (bD:ec P) (cH:fP P call) (dh:f' P call) (hv:∀i o,ops[i]? =some o→k8 i o=true) {l i j:Nat} {b o p:Oper} (tr:ops[l]? =some b) (cn:ops[i]? =some o) (mi:ops[j]? =some p)
 (fs:l≠i) (NI:l≠j) (lK:i≠j) (aY:o.dst=none) (k0:p.dst=none) {r bp:bx} {h aa fB ae:af} {z v cG u fZ:V}
 (ai:∀H,(ct P ax ops b).run call r H=.val z H) (qw:bp=(eZ b.dst).run r z) (vT:∀t ∈ b2 ops p,T.get .bad (aC t) bp=T.get .bad (aC t) r)
 (he:(ct P ax ops o).run call bp h=.val v aa) (aj:(ct P ax ops p).run call bp aa=.val u ae) (gi:(ct P ax ops p).run call bp h=.val fZ fB) (dO:(ct P ax ops o).run call bp fB=.val cG ae)
 {Q:Exit→Act→World→Prop} {E:Env} {a:Act} {w:World} (k:eP E ax r a) (s:a8 az E h w) (c2:∀ay bk ar,E.le ay→eP ay ax bp bk→a8 az ay ae ar→Q .normal bk ar)
 {listed:Array Bool} (b7:listed.size=ops.size) (nU:oL ops fun k=>listed.getD k false=true) (acm:∀cB,(ef [] ops.toList)[i]? =some cB→e_ cB l=true) (kX:∃cB,(ef [] ops.toList)[i]? =some cB)
 (dT:∀m,m<ops.size→(listed.getD m false=true↔(m≠l∧m≠i∧m≠j))) (fuel:Nat) (aA:3≤fuel):wpAnyIn (b4 rd) 0 P .any ops Q fuel listed a w:=by
 have BO:l<ops.size:=(Array.getElem?_eq_some_iff.1 tr).1
 have eY:i<ops.size:=(Array.getElem?_eq_some_iff.1 cn).1
 have GZ:j<ops.size:=(Array.getElem?_eq_some_iff.1 mi).1
 have jm:∀{E:Env} {a:Act} {q:Oper} {R:bx} {H iY:af} {z:V},eP E ax R a→(ct P ax ops q).run call R H=.val z iY→∀t ∈ b2 ops q,Rel E (T.get .bad (aC t) R) (a.tmps.getD t undef):=
  fun k he t aG=>k.an t (Nat.le_of_ble_eq_true (List.all_eq_true.1 (jc he).2 t aG))
 have PE:∀(L:Array Bool),(oL ops fun k=>L.getD k false=true)→¬L.getD l false=true→i ∈ Region.ready .any ops L→False:=by
  intro L aax n_ vJ
  rw [mem_ready] at vJ
  obtain ⟨_,b6,gh,tg⟩:=vJ
  rw [cn] at gh;cases gh
  obtain ⟨cB,kX⟩:=kX
  have vt:oL ops fun k=>L.getD k false=true∨k=i:=by
   intro k ok e aD bl he ai
   rcases aD with aD | rfl
   · exact .inl (aax k ok e aD bl he ai)
   · rw [cn] at bl;cases bl
     exact .inl (tg e (Array.mem_toList_iff.1 he) (by rw [u0];exact ai))
  rcases y2 vt ops.toList [] (fun j=>by simp) (fun k m j aD=>by simp at aD) i cB l kX (acm cB kX) (.inr rfl) with h | h
  · exact n_ h
  · exact fs h
 have YX:∀m,m ∈ Region.ready .any ops listed→oL ops fun k=>(listed.setIfInBounds m true).getD k false=true:=by
  intro m hm k ok e aD bl he ai
  have ml:=hm
  rw [mem_ready] at ml
  obtain ⟨_,gX,NX,tg⟩:=ml
  have abC:m<listed.size:=by rw [b7];exact (Array.getElem?_eq_some_iff.1 NX).1
  rw [e4 abC] at aD ⊢
  rcases aD with rfl | aD
  · rw [NX] at bl;cases bl
    exact .inr (tg e (Array.mem_toList_iff.1 he) (by rw [u0];exact ai))
  · exact .inr (nU k ok e aD bl he ai)
 cases fuel with
 | zero=>omega
 | succ fuel=>
   refine ⟨fun aJ=>absurd (wL hv b7 aJ i eY) (fun h=>((dT i eY).1 h).2.1 rfl),fun m hm=>?_⟩
   obtain ⟨m1,m2⟩:=ue b7 hm
   have gS:m=l∨m=j:=by
    rcases Nat.decEq m l with dc | aB
    · rcases Nat.decEq m j with hJ | aO
      · rcases Nat.decEq m i with n3 | cc
        · exact absurd ((dT m m1).2 ⟨dc,n3,hJ⟩) m2
        · subst cc
          exact (PE listed nU (fun h=>((dT l BO).1 h).1 rfl) hm).elim
      · exact .inr aO
    · exact .inl aB
   rcases gS with rfl | rfl
   · -- p first
     have kg:m<listed.size:=by rw [b7];exact BO
     refine oX bD cH dh tr (ai h) k.size (jm k (ai h)) s fun ay x ar al aq aK=>?_
     have ck:eP ay ax bp (a.put b.dst x):=by rw [qw];exact (k.mono al).put (jc (ai h)).1 aq
     refine aiR bD cH dh hv cn mi lK aY k0 he aj gi dO ck aK (fun bV bQ b1 cg=>c2 bV _ bQ (al.trans b1) (ck.mono b1) cg) (by simp [b7]) (fun y a1=>?_) fuel (by omega)
     rw [e4 kg,dT y a1]
     constructor
     · rintro (rfl | h)
       · exact ⟨fs,NI⟩
       · exact h.2
     · intro h
       by_cases yI:y=m
       · exact .inl yI
       · exact .inr ⟨yI,h⟩
   · -- q first
     have kg:m<listed.size:=by rw [b7];exact GZ
     have tv:(ct P ax ops p).run call r h=.val fZ fB:=by rw [←YS vT];exact gi
     have aay:=YX m hm
     refine oX bD cH dh mi tv k.size (jm k tv) s fun ay x ar al aq aK=>?_
     rw [k0]
     have tD:(listed.setIfInBounds m true).size=ops.size:=by simp [b7]
     cases fuel with
     | zero=>omega
     | succ fuel=>
       refine ⟨fun aJ=>absurd (wL hv tD aJ i eY) (fun h=>?_),fun y a1=>?_⟩
       · rcases (e4 kg).1 h with e | h
         · exact lK e
         · exact ((dT i eY).1 h).2.1 rfl
       obtain ⟨d_,gC⟩:=ue tD a1
       have acu:y=l:=by
        rcases Nat.decEq y l with dc | aB
        · rcases Nat.decEq y i with n3 | cc
          · exfalso
            refine gC ((e4 kg).2 ?_)
            by_cases yI:y=m
            · exact .inl yI
            · exact .inr ((dT y d_).2 ⟨dc,n3,yI⟩)
          · subst cc
            refine (PE _ aay (fun h=>?_) a1).elim
            rcases (e4 kg).1 h with e | h
            · exact NI e
            · exact ((dT l BO).1 h).1 rfl
        · exact aB
       subst acu
       have bn:=k.mono al
       refine oX bD cH dh tr (ai fB) bn.size (jm bn (ai fB)) aK fun bV dR bQ t1 t2 t3=>?_
       have ck:eP bV ax bp (a.put b.dst dR):=by rw [qw];exact (bn.mono t1).put (jc (ai h)).1 t2
       have Hb:y < (listed.setIfInBounds m true).size:=by rw [tD];exact BO
       refine JM bD cH dh hv cn aY dO ck t3 (fun f_ kz b1 cg=>c2 f_ _ kz (al.trans (t1.trans b1)) (ck.mono b1) cg) (by simp [b7]) (fun g aH=>?_) fuel (by omega)
       rw [e4 Hb,e4 kg,dT g aH]
       constructor
       · rintro (rfl | rfl | h)
         · exact fs
         · exact fun e=>lK e.symm
         · exact h.2.1
       · intro h
         by_cases aB:g=y
         · exact .inl aB
         · by_cases aO:g=m
           · exact .inr (.inl aO)
           · exact .inr (.inr ⟨aB,h,aO⟩)
theorem FR {rd:Option Nat} {az:Fr} {E:Env} {h:af} {w:World} {id:Nat} (c1:P.follows .mixedOrders=true) (bD:ec P) (cH:fP P call) (dh:f' P call) {r:bx} {a:Act}
 {Q:Exit→Act→World→Prop} (k:eP E ax r a) (s:a8 az E h w) {es:List eo} {eK:bx} {ba:af} {order aE dY:List Nat} {N M:Nat} (C:Cert P ax ops (fun _=>call) es r h eK ba dY order aE N M false)
 (c2:N=ops.size→∀ay bk ar,E.le ay→eP ay ax eK bk→a8 az ay ba ar→Q .normal bk ar)
 (fT:∀ay bk ar x v ab,E.le ay→N<ops.size→ops.size≤M→(∃i0 fM,ops[i0]? =some fM∧posOf aE i0=N∧(ct P ax ops fM).run call eK ba=.cw v ab)→eP ay ax (mZ r ops.toList) bk→Rel ay v x→a8 az ay ab ar→Q (.panic (ow x)) bk ar)
 (dH:M<ops.size→∀(fuel:Nat) (listed:Array Bool) ay bk ar,(List.range ops.size).countP (fun i=>!listed.getD i false)≤fuel→listed.size=ops.size→oL ops (fun k=>listed.getD k false=true)→(∀k,k<ops.size→(listed.getD k false=true↔posOf aE k<N))→
   E.le ay→eP ay ax eK bk→a8 az ay ba ar→wpAnyIn (b4 rd) 0 P .any ops Q fuel listed bk ar):
 (Code.region id ops true).wpIn (b4 rd) 0 P Q a w:=by
 have de:∀k,¬(Array.replicate ops.size false).getD k false=true:=by
  intro k
  rw [rA,Array.getElem?_replicate]
  split<;>simp
 have iP:Holds az az es ba aE (iI ops es ba aE (Array.replicate ops.size false) 0):=
  ⟨rfl,fun _ _=>rfl,fun k aD=>(by obtain ⟨_,_,_,_,bb⟩:=aD;omega),fun k bn aD=>(by obtain ⟨_,_,_,_,bb⟩:=aD;omega)⟩
 obtain ⟨fY,dJ,g1,g2,g3,g4,g5,g6⟩:=C.advance N 0 (by omega) (fun k o _ _ _=>de k) az iP (E:=E) (w:={w with drawn:=w.drawn}) (by rw [C.bb];exact s.same rfl rfl rfl rfl)
 have kd:∀(ay:Env) (bk:Act),E.le ay→bk.defers=a.defers→∀(bt:bx),T.get .bad ep bt=T.get .bad ep r→j5 ay (T.get .bad ep bt) bk.defers:=fun ay bk he aY bt qv=>by rw [qv,aY];exact k.defers.mono he
 have BH:T.get .bad ep eK=T.get .bad ep r:=by
  have:=C.FT N (Nat.le_refl _)
  have Hk:es[N]? =none:=List.getElem?_eq_none (by rw [C.len];exact Nat.le_refl _)
  simpa [dS,Hk] using this
 refine R6 c1 (Mc bD (fun _=>cH) (fun _=>dh) C (fQ:=E) (D:=a.defers)
  (fun aX ay bk ar al aq aK bG=>c2 aX ay bk ar al ⟨aq,kd ay bk al aK eK BH⟩ bG)
  (fun ay bk ar x v ab al aq QG aK bG di e0 hM=>fT ay bk ar x v ab al aq QG aK ⟨bG,kd ay bk al di _ Ba⟩ e0 hM)
  (fun g0 fuel listed ay bk ar g1 g2 g3 g4 al aq aK bG=>dH g0 fuel listed ay bk ar g1 g2 g3 g4 al ⟨aq,kd ay bk al aK eK BH⟩ bG) ops.size _ a _ ?_ ?_)
 · exact Nat.le_trans List.countP_le_length (by simp)
 · refine ⟨by simp,k.size,rfl,fun bn aD=>absurd aD (de bn),fun bn o e aD=>absurd aD (de bn),E,fY,dJ,Env.le.refl E,g1,g3,fun bn o aa ae=>⟨fun h=>absurd h (de bn),fun h=>by have:=g4 bn o aa ae (Nat.zero_le _);omega⟩,
    fun bn o _ _ h=>absurd h (de bn),g5,?_,fun t aG=>.inr ⟨fun bn o aD=>absurd aD (de bn),k.an t aG⟩⟩
   exact g6.same rfl rfl rfl rfl
theorem Qd {n:Nat} {order aE:List Nat} (fk:kt n order aE=true):order.length=n∧(∀k,k<n→posOf aE k<n∧order[posOf aE k]? =some k)∧∀p,p<n→∃i,i<n∧posOf aE i=p:=by
 unfold kt at fk
 simp only [Bool.and_eq_true,Nat.beq_eq] at fk
 obtain ⟨nf,vL,yn,yo⟩:=fk
 refine ⟨nf,fun k aD=>?_,fun p aj=>?_⟩
 · have aH:aE[k]? =some (posOf aE k):=by
    unfold posOf
    rw [List.getElem?_eq_getElem (by omega)]
    rfl
   have:=sa yn aH
   rw [Nat.zero_add] at this
   exact ⟨by have:=(List.getElem?_eq_some_iff.1 this).1;omega,this⟩
 · have aH:order[p]? =some (order[p]'(by omega)):=List.getElem?_eq_getElem (by omega)
   have:=sa yo aH
   rw [Nat.zero_add] at this
   refine ⟨order[p]'(by omega),by have:=(List.getElem?_eq_some_iff.1 this).1;omega,?_⟩
   unfold posOf
   rw [this]
   rfl
theorem aiO {order aE:List Nat} (aA:zD P ops order aE=true):3≤ops.size∧∀i o,ops[i]? =some o→∃cB,(ef [] ops.toList)[i]? =some cB∧k8 i o=true∧
 (posOf aE i<ops.size-3→∀k ok,ops[k]? =some ok→posOf aE k<ops.size-3→∃mk,(ef [] ops.toList)[k]? =some mk∧ny i cB (b2 ops o) o.dst k mk ok (Nat.blt (posOf aE k) (posOf aE i))=true∧(er P o.op=true→dP P ok=true→posOf aE k<posOf aE i→e_ cB k=true))∧
 (¬posOf aE i<ops.size-3→Dr P ops order aE (ops.size-3) i cB o=true):=by
 unfold zD at aA
 simp only [Bool.and_eq_true,Nat.ble_eq] at aA
 refine ⟨aA.1,fun i o av=>?_⟩
 obtain ⟨cB,aa,ae⟩:=oF aA.2 i o (by simpa using av)
 simp only [Nat.zero_add,Bool.and_eq_true] at ae
 refine ⟨cB,aa,ae.1,fun aN k ok aD n0=>?_,fun ix=>?_⟩
 · have aI:=ae.2
   rw [show Nat.blt (posOf aE i) (ops.size-3)=true from by rw [Nat.blt_eq];exact aN] at aI
   simp only [cond_true] at aI
   obtain ⟨mk,ck,cJ⟩:=oF aI k ok (by simpa using aD)
   simp only [Nat.zero_add] at cJ
   rw [show Nat.blt (posOf aE k) (ops.size-3)=true from by rw [Nat.blt_eq];exact n0] at cJ
   simp only [cond_true,Bool.and_eq_true] at cJ
   refine ⟨mk,ck,cJ.1,fun aB aO aN=>?_⟩
   have gk:=cJ.2
   rw [aB,aO,Bool.true_and,show Nat.blt (posOf aE k) (posOf aE i)=true from by rw [Nat.blt_eq];exact aN] at gk
   exact gk
 · have aI:=ae.2
   rw [show Nat.blt (posOf aE i) (ops.size-3)=false from by rw [←Bool.not_eq_true,Nat.blt_eq];exact ix] at aI
   exact aI
theorem aiP {order aE:List Nat} {N i cB p:Nat} {o CT:Oper} (aj:order[N]? =some p) (ki:ops[p]? =some CT) (h:Dr P ops order aE N i cB o=true):
 (∀k,k<ops.size→posOf aE k<N→e_ cB k=true)∧(posOf aE i=N→er P o.op=false∧looks o.op=false)∧(posOf aE i≠N→∃x,qX o=some x)∧
 (posOf aE i=N+1→e_ cB p=true)∧(posOf aE i=N+2→∀t ∈ b2 ops o,CT.dst≠some t):=by
 unfold Dr at h
 rw [aj] at h
 simp only [Bool.and_eq_true] at h
 obtain ⟨⟨aa,ae⟩,aI,bu⟩:=h
 refine ⟨fun k aD G3=>?_,fun e=>?_,fun e=>?_,fun e=>?_,fun e t aG=>?_⟩
 · obtain ⟨mk,ck,cJ⟩:=oF aa k ops[k] (by simp)
   simp only [Nat.zero_add] at cJ
   rw [show Nat.blt (posOf aE k) N=true from by rw [Nat.blt_eq];exact G3] at cJ
   exact cJ
 · rw [gE,if_pos e] at ae
   simpa using ae
 · rw [gE,if_neg e] at ae
   exact Option.isSome_iff_exists.1 ae
 · rw [gE,if_pos e] at aI
   exact aI
 · rw [gE,if_pos e,ki] at bu
   simp only at bu
   intro aY
   rw [aY] at bu
   simp only [Bool.not_eq_true'] at bu
   rw [show (b2 ops o).contains t=true from by simpa using aG] at bu
   cases bu
theorem GK {es:List eo} {ba:af} {N p:Nat} (aj:p≤N):b' (es.take N) (b' es ba N) p=b' es ba p:=by
 by_cases h:p<N
 · cases he:es[p]? with
   | some e=>simp [b',h,he]
   | none=>
     have aX:es[N]? =none:=List.getElem?_eq_none (by have:=List.getElem?_eq_none_iff.1 he;omega)
     simp [b',h,he,aX]
 · have:p=N:=by omega
   subst this
   simp [b',List.getElem?_take]
theorem QN {es:List eo} {eK:bx} {N p:Nat} (aj:p≤N):dS (es.take N) (dS es eK N) p=dS es eK p:=by
 by_cases h:p<N
 · cases he:es[p]? with
   | some e=>simp [dS,h,he]
   | none=>
     have aX:es[N]? =none:=List.getElem?_eq_none (by have:=List.getElem?_eq_none_iff.1 he;omega)
     simp [dS,h,he,aX]
 · have:p=N:=by omega
   subst this
   simp [dS,List.getElem?_take]
theorem TX {order:List Nat} {es:List eo} {N i j:Nat} {o p:Oper} {e f:eo} {x y:Operand} (br:AB ops order es N=true) (av:order[N]? =some i) (bH:order[N+1]? =some j) (cn:ops[i]? =some o) (mi:ops[j]? =some p)
 (he:es[N]? =some e) (aA:es[N+1]? =some f) (au:qX o=some x) (a1:qX p=some y) {b c:aQ} {off j0:Nat} (ai:(bO x).run (df e.r (b2 ops o))=.ptr b off) (aw:(bO y).run (df f.r (b2 ops p))=.ptr c j0):b≠c:=by
 unfold AB JG at br
 simp only [av,bH,cn,mi,he,aA,au,a1,ai,aw] at br
 intro h
 subst h
 rw [aQ.xS] at br
 cases br
set_option maxHeartbeats 2000000 in
theorem YZ {rd:Option Nat} {az:Fr} {E:Env} {h:af} {w:World} {id:Nat} (c1:P.follows .mixedOrders=true) (bD:ec P) (cH:fP P call) (dh:f' P call) {r:bx} {a:Act} {order aE:List Nat} (fk:kt ops.size order aE=true) (gv:zD P ops order aE=true)
 {Q:Exit→Act→World→Prop} (aj:l9 az E ax (Q .normal) Q (FQ ops order (eU P ax ops (gA ops order)) (pW P ax ops (ef [] ops.toList) aE (gN P aE 0 ops.toList) 0 ops.toList) call r h)) (k:eP E ax r a) (s:a8 az E h w):(Code.region id ops true).wpIn (b4 rd) 0 P Q a w:=by
 obtain ⟨nf,hl,j1⟩:=Qd fk
 obtain ⟨ae,gv⟩:=aiO gv
 unfold FQ at aj
 cases cz:(eU P ax ops (gA ops order)).run call r h with
 | fail=>rw [cz] at aj;exact aj.elim
 | cw _ _ _ _ _=>rw [cz] at aj;exact aj.elim
 | ok es eK ba=>
   rw [cz] at aj
   simp only at aj
   obtain ⟨N,aaH⟩:∃N,N=ops.size-3:=⟨_,rfl⟩
   rw [←aaH] at aj gv
   cases aF:(AB ops order es (N+1)&&(pW P ax ops (ef [] ops.toList) aE (gN P aE 0 ops.toList) 0 ops.toList).run call (es.take N) (b' es ba N)) with
   | false=>rw [aF] at aj;exact aj.elim
   | true=>
     rw [aF] at aj
     simp only [cond_true] at aj
     simp only [Bool.and_eq_true] at aF
     obtain ⟨BE,x3⟩:=aF
     obtain ⟨al,aq,aK,bG⟩:=sl cz
     have hlen:es.length=ops.size:=by rw [al,ov,nf]
     have inj:∀i j,i<ops.size→j<ops.size→posOf aE i=posOf aE j→i=j:=by
      intro i j av bH he
      have a:=(hl i av).2
      have b:=(hl j bH).2
      rw [he,b] at a
      cases a
      rfl
     obtain ⟨k2,rC,vu⟩:=j1 N (by omega)
     obtain ⟨nh,vr,vs⟩:=j1 (N+1) (by omega)
     obtain ⟨ph,o6,s8⟩:=j1 (N+2) (by omega)
     have yc:ops[k2]? =some ops[k2]:=Array.getElem?_eq_getElem rC
     have BK:ops[nh]? =some ops[nh]:=Array.getElem?_eq_getElem vr
     have BL:ops[ph]? =some ops[ph]:=Array.getElem?_eq_getElem o6
     have Hr:=(hl k2 rC).2
     have Hp:=(hl nh vr).2
     have Hq:=(hl ph o6).2
     rw [vu] at Hr
     rw [vs] at Hp
     rw [s8] at Hq
     have vV:∀i o,ops[i]? =some o→¬posOf aE i<N→∃cB,(ef [] ops.toList)[i]? =some cB∧(∀k,k<ops.size→posOf aE k<N→e_ cB k=true)∧(posOf aE i=N→er P o.op=false∧looks o.op=false)∧(posOf aE i≠N→∃x,qX o=some x)∧
      (posOf aE i=N+1→e_ cB k2=true)∧(posOf aE i=N+2→∀t ∈ b2 ops o,ops[k2].dst≠some t):=by
      intro i o av ix
      obtain ⟨cB,cy,_,_,z4⟩:=gv i o av
      exact ⟨cB,cy,aiP Hr yc (z4 ix)⟩
     obtain ⟨akY,_,_,aiN,_⟩:=vV k2 _ yc (by omega)
     obtain ⟨afB,NN,_,_,aiL,ah,_⟩:=vV nh _ BK (by omega)
     obtain ⟨akX,akC,_,_,aiM,_,Ja⟩:=vV ph _ BL (by omega)
     obtain ⟨Mk,afv⟩:=aiN vu
     obtain ⟨alC,HO⟩:=aiL (by omega)
     obtain ⟨alD,HP⟩:=aiM (by omega)
     have ah:=ah vs
     have Ja:=Ja s8
     obtain ⟨FY,fC,ig,Cb⟩:=bG _ _ (lZ Hr yc)
     obtain ⟨sW,bM,a2,a3⟩:=bG _ _ (lZ Hp BK)
     obtain ⟨Mj,bR,cb,hr⟩:=bG _ _ (lZ Hq BL)
     obtain ⟨alq,alH,agj,L0,akf⟩:=JF HO
     obtain ⟨alr,alI,ak7,L1,akg⟩:=JF HP
     have de:es[N+2+1]? =none:=List.getElem?_eq_none (by omega)
     have abr:b' es ba (N+2+1)=ba:=by simp [b',de]
     have ahK:dS es eK (N+2+1)=eK:=by simp [dS,de]
     have aaG:b' es ba N=FY.h:=by simp [b',fC]
     have aho:dS es eK N=FY.r:=by simp [dS,fC]
     have aaE:b' es ba (N+1)=sW.h:=by simp [b',bM]
     have ahm:dS es eK (N+1)=sW.r:=by simp [dS,bM]
     have aaF:b' es ba (N+1+1)=Mj.h:=by simp [b',bR]
     have ahn:dS es eK (N+1+1)=Mj.r:=by simp [dS,bR]
     rw [ahm] at Cb
     rw [aaE] at ig
     rw [L0,ahn] at a3
     rw [L1,ahK] at hr
     simp only [eZ] at a3 hr
     rw [aaF] at a2
     rw [abr] at cb
     obtain ⟨aaD,Gt⟩:=sT Mk ig
     have Gt:=Gt afv
     obtain ⟨K1,ak8,acY,agW,Q9,ajd⟩:=L_ HO a2
     obtain ⟨Ew,ak9,OG,agX,ah3,aje⟩:=L_ HP cb
     have dn:K1≠Ew:=TX BE Hp Hq BK BL bM bR HO HP agW agX
     have Gs:=aje sW.h (by rw [Q9,af.dG,if_neg dn])
     have x2:=ajd (sW.h.set Ew OG) (by rw [af.dG,if_neg (fun e=>dn e.symm)])
     have aaY:(sW.h.set Ew OG).set K1 acY=ba:=by rw [af.set_comm _ (fun e=>dn e.symm),←Q9,←ah3]
     rw [aaY] at x2
     rw [a3] at Gs cb
     have tC:eK=sW.r:=hr.trans a3
     have abD:∀m,m<ops.size→(posOf aE m<N↔(m≠k2∧m≠nh∧m≠ph)):=by
      intro m hm
      have akH:=(hl m hm).1
      constructor
      · intro h
        exact ⟨fun e=>by subst e;omega,fun e=>by subst e;omega,fun e=>by subst e;omega⟩
      · rintro ⟨cA,dc,hJ⟩
        have j8:posOf aE m≠N:=fun e=>cA (inj m k2 hm rC (by rw [e,vu]))
        have bz:posOf aE m≠N+1:=fun e=>dc (inj m nh hm vr (by rw [e,vs]))
        have bN:posOf aE m≠N+2:=fun e=>hJ (inj m ph hm o6 (by rw [e,s8]))
        omega
     have aaV:dP P ops[nh]=true:=by unfold dP fL;rw [agj];rfl
     have vT:∀t ∈ b2 ops ops[ph],T.get .bad (aC t) sW.r=T.get .bad (aC t) FY.r:=by
      intro t aG
      have vX:t≤top:=Nat.le_of_ble_eq_true (List.all_eq_true.1 (jc cb).2 t aG)
      rw [Cb,M1 (jc ig).1 vX,if_neg (Ja t aG)]
     have gU:∀i o,ops[i]? =some o→posOf aE i<N→∃e,(es.take N)[posOf aE i]? =some e∧(ct P ax ops o).run call e.r e.h=.val e.v (b' (es.take N) (b' es ba N) (posOf aE i+1))∧dS (es.take N) (dS es eK N) (posOf aE i+1)=(eZ o.dst).run e.r e.v:=by
      intro i o aU av
      obtain ⟨e,cy,z2,z3⟩:=bG _ o (lZ (hl i (Array.getElem?_eq_some_iff.1 aU).1).2 aU)
      refine ⟨e,by simp [av,cy],?_,?_⟩
      · rw [GK (by omega)];exact z2
      · rw [QN (by omega)];exact z3
     have C:Cert P ax ops (fun _=>call) (es.take N) r h (dS es eK N) (b' es ba N) (N::gN P aE 0 ops.toList) order aE N N false:=
      ⟨by simp [hlen];omega,by omega,Nat.le_refl _,hl,j1,by rw [GK (Nat.zero_le _)];exact aq,by rw [QN (Nat.zero_le _)];exact aK,gU,
        fun i o aU=>by
         obtain ⟨cB,cy,z2,z3,_⟩:=gv i o aU
         exact ⟨cB,cy,z2,fun av k ok aD G2=>by
          obtain ⟨mk,d_,gC,y3⟩:=z3 av k ok aD G2
          exact ⟨mk,d_,gC,fun a b c=>.inl (y3 a b c)⟩⟩,
        by simp,
        fun j o aa ae=>List.mem_cons_of_mem _ (by simpa using wi (aE:=aE) (i:=0) (j:=j) (l:=ops.toList) (by simpa using aa) ae),
        fun s aR=>by
         rcases List.mem_cons.1 aR with rfl | aR
         · exact .inl (.inr ⟨rfl,rfl⟩)
         · rcases r0 aR with h | ⟨j,o,aa,ae,aI⟩
           · exact .inl (.inl (by simpa using h))
           · exact .inr ⟨j,o,by simpa using aa,ae,by simpa using aI⟩,
        fun j o aa ae aI bu=>by
         obtain ⟨e,g1,_⟩:=gU j o aa bu
         have N9:=Er x3 j o (by simpa using aa) ae aI e (by simpa using g1)
         refine ⟨e,g1,fun s aR hm=>?_⟩
         rcases List.mem_cons.1 aR with rfl | aR
         · have lN:qJ P (ef [] ops.toList) ops.toList aE j (((ef [] ops.toList)[j]?).getD 0) (s+1)=true:=by
            unfold qJ at hm ⊢
            refine J4 (by rw [Io];simp) fun cU mk ok d_ gC=>?_
            obtain ⟨mk',bo,dR⟩:=oF hm cU ok gC
            rw [d_] at bo;cases bo
            simp only [Nat.zero_add] at dR ⊢
            have bl:ops[cU]? =some ok:=by simpa using gC
            have n0:=(Array.getElem?_eq_some_iff.1 bl).1
            by_cases jQ:posOf aE cU=s
            · have:cU=k2:=inj cU k2 n0 rC (by rw [jQ,vu])
              subst this
              rw [yc] at bl;cases bl
              have abF:dP P ops[cU]=false:=by unfold dP;rw [Mk];rfl
              rw [abF]
              rfl
            · have:Nat.blt (posOf aE cU) (s+1)=Nat.blt (posOf aE cU) s:=by
               rw [Bool.eq_iff_iff,Nat.blt_eq,Nat.blt_eq]
               omega
              rw [this]
              exact dR
           have vJ:s+1 ∈ gN P aE 0 ops.toList:=by rw [←vs];simpa using wi (P:=P) (aE:=aE) (i:=0) (j:=nh) (l:=ops.toList) (by simp) aaV
           obtain ⟨ab,g3⟩:=N9 (s+1) vJ (by simpa using lN)
           refine ⟨call,ab,⟨cH,dh⟩,?_⟩
           have aB:b' (es.take s) (b' es ba s) (s+1)=b' es ba s:=by
            have:(es.take s)[s+1]? =none:=List.getElem?_eq_none (by simp;omega)
            simp only [b',this]
           have aO:b' (es.take s) (b' es ba s) s=b' es ba s:=GK (Nat.le_refl _)
           rw [aB] at g3
           rw [aO]
           exact g3
         · obtain ⟨ab,g3⟩:=N9 s aR (by simpa using hm)
           exact ⟨call,ab,⟨cH,dh⟩,g3⟩,
        fun _=>⟨rfl,fun cU ok mk aD ix Hf j bH ye=>by
         obtain ⟨cB,cy,z2,_⟩:=vV cU ok aD (by omega)
         rw [Hf] at cy;cases cy
         exact z2 j bH ye⟩,
        fun aa ae=>by omega⟩
     refine FR c1 bD cH dh k s C (fun h=>by omega) (fun _ _ _ _ _ _ _ _ h=>by omega) (fun _ fuel listed ay bk ar g1 g2 g3 g4 g5 g6 g7=>?_)
     rw [aho] at g6
     rw [aaG] at g7
     rw [aaD] at a2 Gs x2
     refine aiQ bD cH dh (fun i o aU=>by obtain ⟨cB,_,z2,_⟩:=gv i o aU;exact z2) yc BK BL (fun e=>by rw [e] at vu;omega) (fun e=>by rw [e] at vu;omega) (fun e=>by rw [e] at vs;omega) L0 L1
      Gt Cb vT a2 cb Gs x2 g6 g7 (fun bV a2 bQ b1 cg cZ=>aj bV a2 bQ (g5.trans b1) (by rw [tC];exact cg) cZ) g2 g3 (fun cB kX=>by rw [NN] at kX;cases kX;exact ah) ⟨afB,NN⟩ (fun m hm=>(g4 m hm).trans (abD m hm)) fuel ?_
     have FL:∀(L:Array Bool) (x:Nat),L.size=ops.size→x<ops.size→¬L.getD x false=true→(List.range ops.size).countP (fun k=>!(L.setIfInBounds x true).getD k false) < (List.range ops.size).countP (fun k=>!L.getD k false):=by
      intro L x cI au aX
      have v_:x<L.size:=by rw [cI];exact au
      refine A1 (fun k=>!L.getD k false) (fun k=>!(L.setIfInBounds x true).getD k false) (List.range ops.size) (fun k _ aD=>?_) ⟨x,List.mem_range.2 au,?_,?_⟩
      · simp only [Bool.not_eq_true'] at aD ⊢
        cases aF:L.getD k false with
        | false=>rfl
        | true=>
          have:=(e4 (k:=k) v_).2 (.inr aF)
          rw [aD] at this
          cases this
      · cases aF:L.getD x false with
        | false=>rfl
        | true=>exact absurd aF aX
      · have:=(e4 (k:=x) v_).2 (.inl rfl)
        simp [this]
     have afT:¬listed.getD k2 false=true:=fun h=>by have:=(g4 k2 rC).1 h;omega
     have afR:¬listed.getD nh false=true:=fun h=>by have:=(g4 nh vr).1 h;omega
     have afS:¬listed.getD ph false=true:=fun h=>by have:=(g4 ph o6).1 h;omega
     have bz:=FL listed k2 g2 rC afT
     have bN:=FL (listed.setIfInBounds k2 true) nh (by simp [g2]) vr (fun h=>by
      rcases (e4 (by rw [g2];exact rC)).1 h with e | h
      · rw [e] at vs;omega
      · exact afR h)
     have c3:=FL ((listed.setIfInBounds k2 true).setIfInBounds nh true) ph (by simp [g2]) o6 (fun h=>by
      rcases (e4 (by simp [g2];exact vr)).1 h with e | h
      · rw [e] at s8;omega
      · rcases (e4 (by rw [g2];exact rC)).1 h with e | h
        · rw [e] at s8;omega
        · exact afS h)
     omega
end
end Go.Proofs.YtkehcalakofigaaGreatDoor.aS
namespace Go.Proofs.YtkehcalakofigaaGreatDoor.aS
variable [Lay]
open Go Go.RowKit
section
variable {P:Program} {ax:Nat} {ops:Array Oper} {call:du}
inductive nH {α β:Type} (R:α→β→Prop):List α→List β→Prop
 | nil:nH R [] []
 | cons {a:α} {b:β} {Ih:List α} {Ii:List β} (h:R a b) (t:nH R Ih Ii):nH R (a::Ih) (b::Ii)
def ud (ops:Array Oper) (t:Nat) (listed:Array Bool):Option Nat:=(Region.ready .any ops listed)[t % (Region.ready .any ops listed).length]?
theorem go_succ (fuel t:Nat) (listed:Array Bool):Region.linearise.go .any ops (fuel+1) t listed []=match ud ops t listed with
 | some i=>i::Region.linearise.go .any ops fuel (t / (Region.ready .any ops listed).length) (listed.setIfInBounds i true) []
 | none=>[]:=by
 simp only [Region.linearise.go]
 change (match (Region.ready .any ops listed)[t % (Region.ready .any ops listed).length]? with
  | some i=>Region.linearise.go .any ops fuel (t / (Region.ready .any ops listed).length) (listed.setIfInBounds i true) [i]
  | none=>[].reverse)=_
 unfold ud
 cases (Region.ready .any ops listed)[t % (Region.ready .any ops listed).length]? with
 | none=>rfl
 | some i=>
   simp only
   rw [linearise_go_acc,List.reverse_singleton,List.singleton_append]
theorem QK {t:Nat} {listed:Array Bool} (h:ud ops t listed=none):Region.ready .any ops listed=[]:=by
 unfold ud at h
 cases aJ:Region.ready .any ops listed with
 | nil=>rfl
 | cons x xs=>
   rw [aJ] at h
   have aN:t % (x::xs).length < (x::xs).length:=Nat.mod_lt _ (by simp)
   rw [List.getElem?_eq_getElem aN] at h
   cases h
theorem Jc {t i:Nat} {listed:Array Bool} (h:ud ops t listed=some i):i ∈ Region.ready .any ops listed:=List.mem_of_getElem? h
theorem count_set {listed:Array Bool} {i:Nat} (b7:listed.size=ops.size) (av:i<ops.size) (aX:¬listed.getD i false=true):
 (List.range ops.size).countP (fun k=>!(listed.setIfInBounds i true).getD k false) < (List.range ops.size).countP (fun k=>!listed.getD k false):=by
 have ak:i<listed.size:=by rw [b7];exact av
 refine A1 (fun k=>!listed.getD k false) (fun k=>!(listed.setIfInBounds i true).getD k false) (List.range ops.size) (fun k _ aD=>?_) ⟨i,List.mem_range.2 av,?_,?_⟩
 · simp only [Bool.not_eq_true'] at aD ⊢
   cases aF:listed.getD k false with
   | false=>rfl
   | true=>
     have:=(e4 (k:=k) ak).2 (.inr aF)
     rw [aD] at this
     cases this
 · cases aF:listed.getD i false with
   | false=>rfl
   | true=>exact absurd aF aX
 · have:=(e4 (k:=i) ak).2 (.inl rfl)
   simp [this]
theorem M5 (hv:∀i o,ops[i]? =some o→k8 i o=true):∀(fuel t:Nat) (listed:Array Bool),listed.size=ops.size→(List.range ops.size).countP (fun i=>!listed.getD i false)≤fuel→
 (Region.linearise.go .any ops fuel t listed []).Nodup∧(∀k ∈ Region.linearise.go .any ops fuel t listed [],k<ops.size∧¬listed.getD k false=true)∧
  ∀k,k<ops.size→listed.getD k false=true∨k ∈ Region.linearise.go .any ops fuel t listed []
 | 0,t,listed,b7,aw=>by
   have e:Region.linearise.go .any ops 0 t listed []=[]:=rfl
   rw [e]
   refine ⟨List.nodup_nil,fun k aD=>by simp at aD,fun k aD=>.inl ?_⟩
   have bb:(List.range ops.size).countP (fun i=>!listed.getD i false)=0:=by omega
   rw [List.countP_eq_zero] at bb
   simpa using bb k (List.mem_range.2 aD)
 | fuel+1,t,listed,b7,aw=>by
   rw [go_succ]
   cases aJ:ud ops t listed with
   | none=>
     simp only
     exact ⟨List.nodup_nil,fun k aD=>by simp at aD,fun k aD=>.inl (wL hv b7 (QK aJ) k aD)⟩
   | some i=>
     simp only
     obtain ⟨i1,i2⟩:=ue b7 (Jc aJ)
     have ak:i<listed.size:=by rw [b7];exact i1
     have:=count_set b7 i1 i2
     obtain ⟨g1,g2,g3⟩:=M5 hv fuel (t / (Region.ready .any ops listed).length) (listed.setIfInBounds i true) (by simp [b7]) (by omega)
     refine ⟨List.nodup_cons.2 ⟨fun hm=>(g2 i hm).2 ((e4 ak).2 (.inl rfl)),g1⟩,fun k aD=>?_,fun k aD=>?_⟩
     · rcases List.mem_cons.1 aD with rfl | aD
       · exact ⟨i1,i2⟩
       · exact ⟨(g2 k aD).1,fun h=>(g2 k aD).2 ((e4 ak).2 (.inr h))⟩
     · rcases g3 k aD with h | h
       · rcases (e4 ak).1 h with rfl | h
         · exact .inr (by simp)
         · exact .inl h
       · exact .inr (by simp [h])
theorem Dn {o:Oper} {os:List Oper} {r:bx} {h:af} {es:List eo} {cL:bx} {aA:af} (he:(eU P ax ops (o::os)).run call r h=.ok es cL aA):
 ∃v aa gG,(ct P ax ops o).run call r h=.val v aa∧(eU P ax ops os).run call ((eZ o.dst).run r v) aa=.ok gG cL aA∧es=⟨r,h,v⟩::gG:=by
 simp only [eU,zC] at he
 cases aa:(ct P ax ops o).run call r h with
 | fail=>rw [aa] at he;cases he
 | cw _ _=>rw [aa] at he;simp only at he;cases hm:kq o.op<;>rw [hm] at he<;>cases he
 | val v ba=>
   rw [aa] at he
   simp only at he
   cases ae:(eU P ax ops os).run call ((eZ o.dst).run r v) ba with
   | fail=>rw [ae] at he;cases he
   | cw _ _ _ _ _=>rw [ae] at he;cases he
   | ok gG bp aI=>
     rw [ae] at he
     simp only [oK.ok.injEq] at he
     obtain ⟨rfl,rfl,rfl⟩:=he
     exact ⟨v,ba,gG,rfl,ae,rfl⟩
theorem Dp {o:Oper} {os:List Oper} {r:bx} {h aa:af} {v:V} {gG:List eo} {cL:bx} {aA:af} (bb:(ct P ax ops o).run call r h=.val v aa) (ae:(eU P ax ops os).run call ((eZ o.dst).run r v) aa=.ok gG cL aA):
 (eU P ax ops (o::os)).run call r h=.ok (⟨r,h,v⟩::gG) cL aA:=by
 simp only [eU,zC,bb,ae]
theorem JD:∀(fC ig:List Oper) {r:bx} {h:af} {es:List eo} {cL:bx} {aA:af},(eU P ax ops (fC++ig)).run call r h=.ok es cL aA→
 ∃gG bp aa o0,(eU P ax ops fC).run call r h=.ok gG bp aa∧(eU P ax ops ig).run call bp aa=.ok o0 cL aA∧es=gG++o0
 | [],ig,r,h,es,cL,aA,he=>⟨[],r,h,es,rfl,he,rfl⟩
 | o::os,ig,r,h,es,cL,aA,he=>by
   obtain ⟨v,aa,gG,al,aq,rfl⟩:=Dn he
   obtain ⟨F7,bp,aI,o0,g1,g2,rfl⟩:=JD os ig aq
   exact ⟨⟨r,h,v⟩::F7,bp,aI,o0,Dp al g1,g2,rfl⟩
theorem JE:∀(fC ig:List Oper) {r bp cL:bx} {h aa aA:af} {gG o0:List eo},(eU P ax ops fC).run call r h=.ok gG bp aa→(eU P ax ops ig).run call bp aa=.ok o0 cL aA→
 (eU P ax ops (fC++ig)).run call r h=.ok (gG++o0) cL aA
 | [],ig,r,bp,cL,h,aa,aA,gG,o0,he,ae=>by
   simp only [eU,oK.ok.injEq] at he
   obtain ⟨rfl,rfl,rfl⟩:=he
   exact ae
 | o::os,ig,r,bp,cL,h,aa,aA,gG,o0,he,ae=>by
   obtain ⟨v,aI,F7,al,aq,rfl⟩:=Dn he
   exact Dp al (JE os ig aq ae)
theorem zg:∀(a b:List Nat),gA ops (a++b)=gA ops a++gA ops b
 | [],b=>rfl
 | x::xs,b=>by simp [gA,zg xs b]
theorem QH:∀(l:List Oper),(∀o ∈ l,er P o.op=false∧looks o.op=false)→∀{r cL:bx} {h aA:af} {es:List eo},(eU P ax ops l).run call r h=.ok es cL aA→
 aA=h∧∀H:af,∃h',(eU P ax ops l).run call r H=.ok h' cL H
 | [],_,r,cL,h,aA,es,he=>by
   simp only [eU,oK.ok.injEq] at he
   obtain ⟨rfl,rfl,rfl⟩:=he
   exact ⟨rfl,fun H=>⟨[],rfl⟩⟩
 | o::os,aF,r,cL,h,aA,es,he=>by
   obtain ⟨v,aa,gG,al,aq,rfl⟩:=Dn he
   obtain ⟨aB,aO⟩:=aF o (by simp)
   obtain ⟨d1,d2⟩:=sT aB al
   subst d1
   obtain ⟨g1,g2⟩:=QH os (fun b6 gh=>aF b6 (by simp [gh])) aq
   refine ⟨g1,fun H=>?_⟩
   obtain ⟨h',g3⟩:=g2 H
   exact ⟨_,Dp (d2 aO H) g3⟩
theorem yN {o:Oper} {A:uA} (h:kl o=some A):o.op=.insert A.t A.m A.k A.x∧o.dst=none∧o.guard=none:=by
 unfold kl at h
 split at h
 case h_2=>cases h
 rename_i t m k x aU
 split at h
 case h_2=>cases h
 rename_i aY
 split at h
 case h_2=>cases h
 rename_i aH
 cases h
 exact ⟨aU,aY,aH⟩
theorem QB {e:dp} {k v:V} {c:Nat}:∀{es:List ca},(∀m ∈ es,e.run k m.k=some false)→ku e k v c es=some (es++[⟨k,v,c⟩],true)
 | [],_=>rfl
 | m::ms,h=>by
   simp only [ku,h m (by simp),cond_false,QB (es:=ms) fun c' lN=>h c' (by simp [lN]),List.cons_append]
theorem YT {o:Oper} {A:uA} (vH:yT P A.t=true) (lH:kl o=some A) {r:bx} {H1 cD:af} {v:V} (he:(ct P ax ops o).run call r H1=.val v cD) {b:aQ} (ai:(bO A.m).run (df r (b2 ops o))=.map b):
 ∀(H:af) es c,H.get b=.mp es c→(∀m ∈ es,(rW P A.t).run ((bO A.k).run (df r (b2 ops o))) m.k=some false)→
  (ct P ax ops o).run call r H=.val .bad (H.set b (.mp (es++[⟨(bO A.k).run (df r (b2 ops o)),(bO A.x).run (df r (b2 ops o)),c⟩]) (c+1))):=by
 obtain ⟨aU,aY,aH⟩:=yN lH
 obtain ⟨aa,ae⟩:=jc he
 have key:ct P ax ops o=⟨hU none (eG P o) (b2 ops o)⟩:=by
  unfold ct
  rw [show (eI ax o.dst&&jz (b2 ops o))=true from by rw [aa,ae];rfl,aH]
  rfl
 rw [key] at he ⊢
 simp only [hU] at he ⊢
 have tb:∀H,(eG P o).run call (df r (b2 ops o)) H=gO .bad ((nF P A.t).run H (.map b) ((bO A.k).run (df r (b2 ops o))) ((bO A.x).run (df r (b2 ops o)))):=by
  intro H
  unfold eG
  rw [aU]
  simp only [ai]
 rw [tb] at he
 have ach:nF P A.t=⟨nG (rW P A.t)⟩:=by
  cases aR:(nF P A.t).run H1 (.map b) ((bO A.k).run (df r (b2 ops o))) ((bO A.x).run (df r (b2 ops o))) with
  | none=>rw [aR] at he;cases he
  | some aI=>
    unfold nF at aR ⊢
    unfold rW
    cases aG:a' P A.t with
    | none=>rw [aG] at aR;cases aR
    | some aP=>
      rw [aG] at aR
      simp only at aR ⊢
      cases bP:aP.bc<;>rw [bP] at aR<;>simp only at aR ⊢<;>try (cases aR;done)
      rename_i b5 jd
      cases kU:a' P b5 with
      | none=>rw [kU] at aR;cases aR
      | some gM=>
        rw [kU] at aR
        simp only at aR ⊢
        cases aA:mu gM.bc with
        | false=>
          unfold yT at vH
          rw [aG] at vH
          simp only [bP,kU,aA] at vH
          cases vH
        | true=>rfl
 intro H es c jO aD
 rw [tb,ach]
 simp only [nG,jO,b3.iU,QB aD,gO,cond_true]
theorem acO {o:Oper} {r:bx} {b:aQ} {m:ca} (h:rT ops r b o=some m):∃A,kl o=some A∧(bO A.m).run (df r (b2 ops o))=.map b∧m.k=(bO A.k).run (df r (b2 ops o))∧m.v=(bO A.x).run (df r (b2 ops o)):=by
 unfold rT at h
 cases br:kl o with
 | none=>rw [br] at h;cases h
 | some A=>
   rw [br] at h
   simp only at h
   cases hm:(bO A.m).run (df r (b2 ops o))<;>rw [hm] at h<;>simp only at h<;>try (cases h;done)
   obtain ⟨aw,aa⟩:=dW h
   have:=aQ.kN aw
   subst this
   cases aa
   exact ⟨A,rfl,hm,rfl,rfl⟩
def jE (ops:Array Oper) (r:bx) (b:aQ) (i:Nat) (m:ca):Prop:=∃o,ops[i]? =some o∧rT ops r b o=some m
theorem jE.FN {r:bx} {b:aQ} {i:Nat} {m c':ca} (h:jE ops r b i m) (ab:jE ops r b i c'):m=c':=by
 obtain ⟨o,aa,ae⟩:=h
 obtain ⟨b6,aI,bu⟩:=ab
 rw [aa] at aI;cases aI
 rw [ae] at bu;cases bu
 rfl
theorem B6 {r:bx} {b:aQ}:∀{is:List Nat} {ms:List ca},tJ ops r b is=some ms→nH (jE ops r b) is ms
 | [],ms,h=>by simp only [tJ,Option.some.injEq] at h;subst h;exact .nil
 | i::is,ms,h=>by
   simp only [tJ] at h
   cases aU:ops[i]? with
   | none=>rw [aU] at h;cases h
   | some o=>
     rw [aU] at h
     simp only at h
     cases hm:rT ops r b o with
     | none=>rw [hm] at h;cases h
     | some m=>
       rw [hm] at h
       simp only at h
       cases aR:tJ ops r b is with
       | none=>rw [aR] at h;cases h
       | some ak1=>
         rw [aR] at h
         simp only [Option.some.injEq] at h
         subst h
         exact .cons ⟨o,aU,hm⟩ (B6 aR)
theorem OD {x:Option Bool} (h:isFalse x=true):x=some false:=by
 cases x with
 | none=>cases h
 | some b=>cases b<;>simp_all [isFalse]
theorem Ek {e:dp} {m:ca}:∀{ms:List ca},AD e m ms=true→∀c' ∈ ms,e.run m.k c'.k=some false∧e.run c'.k m.k=some false
 | [],_,c',h=>by simp at h
 | x::xs,h,c',hm=>by
   simp only [AD,Bool.and_eq_true] at h
   rcases List.mem_cons.1 hm with rfl | hm
   · exact ⟨OD h.1,OD h.2.1⟩
   · exact Ek h.2.2 c' hm
theorem KM {r:bx} {b:aQ} {e:dp}:∀{is:List Nat} {ms:List ca},nH (jE ops r b) is ms→is.Nodup→xu e ms=true→∀i j m c',i ∈ is→j ∈ is→i≠j→jE ops r b i m→jE ops r b j c'→e.run m.k c'.k=some false
 | _,_,.nil,_,_,i,_,_,_,av,_,_,_,_=>by simp at av
 | _,_,.cons (a:=x) (b:=dU) (Ih:=xs) (Ii:=afQ) bb aG,aX,br,i,j,m,c',av,bH,lK,hm,lN=>by
   simp only [xu,Bool.and_eq_true] at br
   rw [List.nodup_cons] at aX
   have Ot:∀k n,k ∈ xs→jE ops r b k n→n ∈ afQ:=by
    intro k n aD abp
    have gen:∀{is:List Nat} {ms:List ca},nH (jE ops r b) is ms→k ∈ is→n ∈ ms:=by
     intro is ms aA
     induction aA with
     | nil=>intro aD;simp at aD
     | cons aa _ bg=>
       intro aD
       rcases List.mem_cons.1 aD with rfl | aD
       · rw [abp.FN aa];simp
       · exact List.mem_cons_of_mem _ (bg aD)
    exact gen aG aD
   rcases List.mem_cons.1 av with NF | av
   · rcases List.mem_cons.1 bH with G0 | bH
     · exact absurd (NF.trans G0.symm) lK
     · rw [NF] at hm
       rw [hm.FN bb]
       exact (Ek br.1 c' (Ot j c' bH lN)).1
   · rcases List.mem_cons.1 bH with G0 | bH
     · rw [G0] at lN
       rw [lN.FN bb]
       exact (Ek br.1 m (Ot i m av hm)).2
     · exact KM aG aX.2 br.2 i j m c' av bH lK hm lN
theorem H0 {h3:bx} {b:aQ} {e:dp} {I:List Nat} (qd:∀i ∈ I,∃o A m,ops[i]? =some o∧kl o=some A∧(yT P A.t=true∧rW P A.t=e)∧rT ops h3 b o=some m∧∃v H1 cD,(ct P ax ops o).run call h3 H1=.val v cD)
 (BD:∀i j m c',i ∈ I→j ∈ I→i≠j→jE ops h3 b i m→jE ops h3 b j c'→e.run m.k c'.k=some false):
 ∀(τ:List Nat) (done:List Nat) (ds:List ca) (c:Nat) (H:af),(∀i ∈ τ,i ∈ I)→(∀i ∈ done,i ∈ I)→(done++τ).Nodup→(∀m ∈ ds,∃i ∈ done,∃c',jE ops h3 b i c'∧m.k=c'.k)→H.get b=.mp ds c→
  ∃es ms e3 iY,(eU P ax ops (gA ops τ)).run call h3 H=.ok es h3 iY∧iY.get b=.mp (ds++ms) e3∧(∀k,b≠k→iY.get k=H.get k)∧(∀k,iY.set b k=H.set b k)∧(∀e ∈ es,∀k,b≠k→e.h.get k=H.get k)∧
   nH (fun i (m:ca)=>∃c',jE ops h3 b i c'∧m.k=c'.k∧m.v=c'.v) τ ms
 | [],done,ds,c,H,_,_,_,_,jO=>⟨[],[],c,H,rfl,by rw [List.append_nil];exact jO,fun _ _=>rfl,fun _=>rfl,fun e he=>by simp at he,.nil⟩
 | i::τ,done,ds,c,H,B0,Nu,nd,rG,jO=>by
   obtain ⟨o,A,m,aU,lH,⟨vH,tp⟩,hm,v,H1,cD,cK⟩:=qd i (B0 i (by simp))
   obtain ⟨iH,Ni,ai,aD,au⟩:=acO hm
   rw [lH] at Ni;cases Ni
   have pb:i ∉ done:=fun h=>by
    rw [List.nodup_append] at nd
    exact nd.2.2 i h i (by simp) rfl
   have gU:=YT vH lH cK ai H ds c jO (fun c' lN=>by
    obtain ⟨j,bH,afK,aa9,abo⟩:=rG c' lN
    rw [abo,tp,←aD]
    exact BD i j m afK (B0 i (by simp)) (Nu j bH) (fun e=>pb (e ▸ bH)) ⟨o,aU,hm⟩ aa9)
   obtain ⟨_,aY,_⟩:=yN lH
   obtain ⟨es,ms,e3,iY,g1,g2,g3,g4,g6,g5⟩:=H0 qd BD τ (done++[i]) (ds++[⟨(bO A.k).run (df h3 (b2 ops o)),(bO A.x).run (df h3 (b2 ops o)),c⟩]) (c+1)
    (H.set b (.mp (ds++[⟨(bO A.k).run (df h3 (b2 ops o)),(bO A.x).run (df h3 (b2 ops o)),c⟩]) (c+1))) (fun j bH=>B0 j (by simp [bH]))
    (fun j bH=>by
      rcases List.mem_append.1 bH with h | h
      · exact Nu j h
      · simp only [List.mem_singleton] at h;subst h;exact B0 j (by simp)) (by simpa using nd)
    (fun c' lN=>by
      rcases List.mem_append.1 lN with h | h
      · obtain ⟨j,bH,r⟩:=rG c' h
        exact ⟨j,by simp [bH],r⟩
      · simp only [List.mem_singleton] at h;subst h
        exact ⟨i,by simp,m,⟨o,aU,hm⟩,aD.symm⟩) (by rw [af.dG,if_pos rfl])
   have N7:=Dp (os:=gA ops τ) gU (by rw [aY];exact g1)
   rw [show o::gA ops τ=gA ops (i::τ) from by simp [gA,aU]] at N7
   refine ⟨_,⟨(bO A.k).run (df h3 (b2 ops o)),(bO A.x).run (df h3 (b2 ops o)),c⟩::ms,e3,iY,N7,by rw [g2,List.append_assoc];rfl,fun k aD=>?_,fun k=>?_,fun db dO k aD=>?_,.cons ⟨m,⟨o,aU,hm⟩,aD.symm,au.symm⟩ g5⟩
   · rw [g3 k aD,af.dG,if_neg aD]
   · rw [g4]
     unfold af.set
     simp only [T.QD]
   · rcases List.mem_cons.1 dO with rfl | dO
     · rfl
     · rw [g6 db dO k aD,af.dG,if_neg aD]
def oR (E:Env):List (V × V)→List MapEntry→Prop
 | [],l=>l=[]
 | p::bd,l=>∃e es,l=e::es∧Rel E p.1 e.key∧Rel E p.2 e.val∧oR E bd es
theorem oR.perm {E:Env} {bd iF:List (V × V)} (h:bd.Perm iF):∀{l:List MapEntry},oR E iF l→∃dL,oR E bd dL∧dL.Perm l:=by
 induction h with
 | nil=>intro l h;exact ⟨l,h,.refl _⟩
 | cons x _ bg=>
   intro l h
   obtain ⟨e,es,rfl,aa,ae,aI⟩:=h
   obtain ⟨dL,g1,g2⟩:=bg aI
   exact ⟨e::dL,⟨e,dL,rfl,aa,ae,g1⟩,g2.cons e⟩
 | swap x y gD=>
   intro l h
   obtain ⟨e,es,rfl,aa,ae,db,h',rfl,aI,bu,cf⟩:=h
   exact ⟨db::e::h',⟨db,_,rfl,aI,bu,e,h',rfl,aa,ae,cf⟩,List.Perm.swap _ _ _⟩
 | trans _ _ B2 yM=>
   intro l h
   obtain ⟨fC,g1,g2⟩:=yM h
   obtain ⟨ig,g3,g4⟩:=B2 g1
   exact ⟨ig,g3,g4.trans g2⟩
theorem oR.PN {E:Env}:∀{ms:List ca} {l:List MapEntry},dF E ms l→oR E (ms.map fun m=>(m.k,m.v)) l
 | [],l,h=>h
 | m::ms,l,h=>by
   obtain ⟨e,es,rfl,aa,ae,_,bu⟩:=h
   exact ⟨e,es,rfl,aa,ae,oR.PN bu⟩
theorem jI.PO {E:Env}:∀{ms:List ca} {l:List MapEntry},oR E (ms.map fun m=>(m.k,m.v)) l→jI E ms l
 | [],l,h=>h
 | m::ms,l,h=>by
   obtain ⟨e,es,rfl,aa,ae,bu⟩:=h
   exact ⟨e,es,rfl,aa,ae,jI.PO bu⟩
theorem a8.forget {az:Fr} {E:Env} {h:af} {w:World} (s:a8 az E h w) {b:aQ} {p:hS} {es ms:List ca} {c:Nat} (aH:h.get b=.mp es c) (aj:E b=some p) (fk:(ms.map fun m=>(m.k,m.v)).Perm (es.map fun m=>(m.k,m.v))):
 a8 az E (h.set b (.gW ms)) w:=by
 have ai:=s.at aj
 rw [aH] at ai
 obtain ⟨p',a,gi,cS,ba,hm⟩:=ai
 rw [aj] at gi;cases gi
 obtain ⟨l,g1,g2⟩:=oR.perm fk (oR.PN hm)
 exact s.set (by rw [aH];rfl) aj cS (Nat.le_refl _) (fun _ _=>rfl) rfl rfl rfl (fun _ _ _ e=>by cases e) ⟨p,a,c,l,aj,cS,ba,jI.PO g1,g2⟩
theorem Oz:∀(l:List Oper),(∀o ∈ l,o.dst=none)→∀{r cL:bx} {h aA:af} {es:List eo},(eU P ax ops l).run call r h=.ok es cL aA→∀o ∈ l,∃v H1 cD,(ct P ax ops o).run call r H1=.val v cD
 | [],_,_,_,_,_,_,_,o,aU=>by simp at aU
 | x::xs,aY,r,cL,h,aA,es,he,o,aU=>by
   obtain ⟨v,aa,gG,al,aq,rfl⟩:=Dn he
   rcases List.mem_cons.1 aU with rfl | aU
   · exact ⟨v,h,aa,al⟩
   · rw [aY x (by simp)] at aq
     exact Oz xs (fun b6 gh=>aY b6 (by simp [gh])) aq o aU
theorem aft {t:TypeId} {H H1:af} {c:aQ} {off:Nat} (h:H.get c=H1.get c):(oq P t).run H (.ptr c off)=(oq P t).run H1 (.ptr c off):=by
 unfold oq
 cases a' P t with
 | none=>rfl
 | some aP=>
   simp only
   cases aP.agg with
   | true=>simp only [cond_true,lV,V.h1,h]
   | false=>
     simp only [cond_false]
     cases Nat.beq aP.size 1 with
     | true=>simp only [cond_true,lW,V.h1,h]
     | false=>rfl
theorem YV {o:Oper} {t:TypeId} {x:Operand} (aU:o.op=.load t x) (aH:o.guard=none) {r:bx} {H1 ab:af} {v:V} (he:(ct P ax ops o).run call r H1=.val v ab) {c:aQ} {off:Nat} (au:(bO x).run (df r (b2 ops o))=.ptr c off)
 (H:af) (jO:H.get c=H1.get c):(ct P ax ops o).run call r H=.val v H:=by
 obtain ⟨aa,ae⟩:=jc he
 have key:ct P ax ops o=⟨hU none (eG P o) (b2 ops o)⟩:=by
  unfold ct
  rw [show (eI ax o.dst&&jz (b2 ops o))=true from by rw [aa,ae];rfl,aH]
  rfl
 rw [key] at he ⊢
 simp only [hU] at he ⊢
 have tb:∀H,(eG P o).run call (df r (b2 ops o)) H=aZ.of H ((oq P t).run H (.ptr c off)):=by
  intro H
  unfold eG
  rw [aU]
  simp only [au]
 rw [tb] at he ⊢
 rw [aft jO]
 exact aZ.tW he H
theorem Pc {es:List eo} {h:af} {b:aQ}:∀{is:List Nat} {p:Nat},y1 P ops es h b call ax is p=true→∀q i o t x,is[q]? =some i→ops[i]? =some o→o.op=.load t x→
 ∃e c off ab,es[p+q]? =some e∧(bO x).run (df e.r (b2 ops o))=.ptr c off∧c≠b∧o.guard=none∧(ct P ax ops o).run call e.r h=.val e.v ab
 | [],_,_,q,i,o,t,x,h,_,_=>by simp at h
 | j::acX,p,ak,q,i,o,t,x,aF,aU,kZ=>by
   simp only [y1] at ak
   cases q with
   | succ q=>
     cases bH:ops[j]? with
     | none=>rw [bH] at ak;cases ak
     | some ak_=>
       rw [bH] at ak
       simp only [Bool.and_eq_true] at ak
       have:=Pc ak.2 q i o t x (by simpa using aF) aU kZ
       rw [show p + (q+1)=p+1+q from by omega]
       exact this
   | zero=>
     simp only [List.getElem?_cons_zero,Option.some.injEq] at aF
     subst aF
     rw [aU] at ak
     simp only [Bool.and_eq_true] at ak
     have aa:=ak.1
     rw [kZ] at aa
     simp only at aa
     rw [Nat.add_zero]
     cases he:es[p]? with
     | none=>rw [he] at aa;cases aa
     | some e=>
       rw [he] at aa
       simp only at aa
       cases au:(bO x).run (df e.r (b2 ops o))<;>rw [au] at aa<;>simp only at aa<;>try (cases aa;done)
       rename_i c off
       simp only [Bool.and_eq_true,Bool.not_eq_true'] at aa
       cases aH:o.guard with
       | some _=>rw [aH] at aa;cases aa.2
       | none=>
         rw [aH] at aa
         simp only at aa
         have ae:=aa.2
         cases aJ:(ct P ax ops o).run call e.r h with
         | fail=>rw [aJ] at ae;cases ae
         | cw _ _=>rw [aJ] at ae;cases ae
         | val v ab=>
           rw [aJ] at ae
           have bs:=F6 ae
           exact ⟨e,c,off,ab,rfl,au,(fun e=>by rw [e,aQ.xS] at aa;cases aa.1),rfl,by rw [aJ,bs]⟩
theorem wa {k:Nat}:∀{l:List Nat} {p:Nat},l.Nodup→l[p]? =some k→l.idxOf k=p
 | [],_,_,h=>by simp at h
 | x::xs,p,aX,h=>by
   rw [List.nodup_cons] at aX
   cases p with
   | zero=>
     simp only [List.getElem?_cons_zero,Option.some.injEq] at h
     subst h
     simp
   | succ p=>
     have au:xs[p]? =some k:=by simpa using h
     have dn:x≠k:=fun e=>aX.1 (e ▸ List.mem_of_getElem? au)
     rw [List.idxOf_cons]
     simp only [beq_iff_eq,dn,cond_false,show (x == k)=false from by simpa using dn]
     rw [wa aX.2 au]
def k3 (ops:Array Oper) (i:Nat):Bool:=
 match ops[i]? with
 | some o=>jS o
 | none=>false
theorem B7 {o:Oper} {A:uA} (h:kl o=some A):jS o=true∧er P o.op=true∧fL o=false:=by
 obtain ⟨aU,_,_⟩:=yN h
 refine ⟨by unfold jS;rw [aU],by rw [aU];rfl,by unfold fL;rw [aU]⟩
theorem afm {aE:List Nat} {cA dc:Nat} {t:TypeId} (aA:y0 P ops aE cA dc t=true):∀i o,ops[i]? =some o→∃cB,(ef [] ops.toList)[i]? =some cB∧k8 i o=true∧
 (∀k ok,ops[k]? =some ok→∃mk,(ef [] ops.toList)[k]? =some mk∧ny i cB (b2 ops o) o.dst k mk ok (Nat.blt (posOf aE k) (posOf aE i))=true)∧
 (posOf aE i<cA→jS o=false∧dP P o=false∧(looks o.op=true→er P o.op=false→∃t x,o.op=.load t x))∧
 (¬posOf aE i<cA→posOf aE i<dc→∃A,kl o=some A∧A.t=t)∧
 (¬posOf aE i<cA→¬posOf aE i<dc→er P o.op=false∧looks o.op=false):=by
 unfold y0 at aA
 simp only [Bool.and_eq_true] at aA
 replace aA:=aA.2
 intro i o av
 obtain ⟨cB,aa,ae⟩:=oF aA i o (by simpa using av)
 simp only [Nat.zero_add,Bool.and_eq_true] at ae
 obtain ⟨⟨aI,bu⟩,cf⟩:=ae
 refine ⟨cB,aa,aI,fun k ok aD=>?_,fun aN=>?_,fun ix aN=>?_,fun ix abb=>?_⟩
 · obtain ⟨mk,ck,cJ⟩:=oF bu k ok (by simpa using aD)
   simp only [Nat.zero_add] at cJ
   exact ⟨mk,ck,cJ⟩
 · rw [show Nat.blt (posOf aE i) cA=true from by rw [Nat.blt_eq];exact aN] at cf
   simp only [cond_true,Bool.and_eq_true,Bool.not_eq_true',Bool.or_eq_true] at cf
   refine ⟨cf.1.1,cf.1.2,fun ak he=>?_⟩
   rcases cf.2 with (h | h) | h
   · rw [ak] at h;cases h
   · rw [he] at h;cases h
   · cases kZ:o.op<;>rw [kZ] at h<;>simp only at h<;>first
      | (cases h;done)
      | exact ⟨_,_,rfl⟩
 · rw [show Nat.blt (posOf aE i) cA=false from by rw [←Bool.not_eq_true,Nat.blt_eq];exact ix,show Nat.blt (posOf aE i) dc=true from by rw [Nat.blt_eq];exact aN] at cf
   simp only [cond_true,cond_false] at cf
   cases br:kl o with
   | none=>rw [br] at cf;cases cf
   | some A=>rw [br] at cf;exact ⟨A,rfl,Nat.eq_of_beq_eq_true cf⟩
 · rw [show Nat.blt (posOf aE i) cA=false from by rw [←Bool.not_eq_true,Nat.blt_eq];exact ix,show Nat.blt (posOf aE i) dc=false from by rw [←Bool.not_eq_true,Nat.blt_eq];exact abb] at cf
   simp only [cond_false,Bool.and_eq_true,Bool.not_eq_true'] at cf
   exact cf
theorem afn {order:List Nat} {es:List eo} {cA:Nat} {b:aQ} {h3:bx} {A:uA} (h:Cj ops order es cA=some (b,h3,A)):
 ∃e i o,es[cA]? =some e∧order[cA]? =some i∧ops[i]? =some o∧kl o=some A∧e.r=h3:=by
 unfold Cj at h
 cases he:es[cA]? with
 | none=>rw [he] at h;cases h
 | some e=>
   rw [he] at h
   simp only at h
   cases av:order[cA]? with
   | none=>rw [av] at h;cases h
   | some i=>
     rw [av] at h
     simp only at h
     cases aU:ops[i]? with
     | none=>rw [aU] at h;cases h
     | some o=>
       rw [aU] at h
       simp only at h
       cases br:kl o with
       | none=>rw [br] at h;cases h
       | some iH=>
         rw [br] at h
         simp only at h
         cases hm:(bO iH.m).run (df e.r (b2 ops o))<;>rw [hm] at h<;>simp only at h<;>try (cases h;done)
         simp only [Option.some.injEq,Prod.mk.injEq] at h
         obtain ⟨_,ae,rfl⟩:=h
         exact ⟨e,i,o,rfl,rfl,aU,br,ae⟩
theorem Po {r:bx} {b:aQ} {f:Nat→V × V} (aA:∀i m,jE ops r b i m→f i=(m.k,m.v)):∀{is:List Nat} {ms:List ca},nH (fun i (m:ca)=>∃c',jE ops r b i c'∧m.k=c'.k∧m.v=c'.v) is ms→ms.map (fun m=>(m.k,m.v))=is.map f
 | _,_,.nil=>rfl
 | _,_,.cons (a:=i) (b:=m) bb aG=>by
   obtain ⟨c',aa,ae,aI⟩:=bb
   simp only [List.map_cons,Po aA aG,aA i c' aa,ae,aI]
theorem wJ {n:Nat} {order aE:List Nat} (fk:kt n order aE=true) {p i:Nat} (h:order[p]? =some i):posOf aE i=p∧i<n:=by
 unfold kt at fk
 simp only [Bool.and_eq_true,Nat.beq_eq] at fk
 obtain ⟨_,ae,_,bu⟩:=fk
 have:=sa bu h
 rw [Nat.zero_add] at this
 refine ⟨by unfold posOf;rw [this];rfl,?_⟩
 have:=(List.getElem?_eq_some_iff.1 this).1
 omega
theorem aga {l:List Nat} {f:Nat→Nat} (h:∀p i,l[p]? =some i→f i=p):l.Nodup:=by
 rw [List.Nodup,List.pairwise_iff_getElem]
 intro i j av bH lK he
 have aa:=h i _ (List.getElem?_eq_getElem av)
 have ae:=h j _ (List.getElem?_eq_getElem bH)
 rw [he,ae] at aa
 omega
theorem nH.left {α β:Type} {R:α→β→Prop}:∀{fC:List α} {ig:List β},nH R fC ig→∀x ∈ fC,∃y ∈ ig,R x y
 | _,_,.nil,x,h=>by simp at h
 | _,_,.cons bb aG,x,h=>by
   rcases List.mem_cons.1 h with rfl | h
   · exact ⟨_,by simp,bb⟩
   · obtain ⟨y,aa,ae⟩:=aG.left x h
     exact ⟨y,by simp [aa],ae⟩
theorem acU {o:Oper} (h:jS o=true):er P o.op=true∧fL o=false:=by
 unfold jS at h
 unfold fL
 cases aU:o.op<;>rw [aU] at h<;>simp only at h<;>first
  | (cases h;done)
  | exact ⟨rfl,rfl⟩
theorem ai2 {pre σ post:List Nat} (nd:(pre++(σ++post)).Nodup) (k q:Nat):(pre[q]? =some k→(pre++(σ++post)).idxOf k=q)∧(σ[q]? =some k→(pre++(σ++post)).idxOf k=pre.length+q)∧(post[q]? =some k→(pre++(σ++post)).idxOf k=pre.length+σ.length+q):=by
 refine ⟨fun h=>wa nd ?_,fun h=>wa nd ?_,fun h=>wa nd ?_⟩
 · have:=(List.getElem?_eq_some_iff.1 h).1
   rw [List.getElem?_append_left this]
   exact h
 · have:=(List.getElem?_eq_some_iff.1 h).1
   rw [List.getElem?_append_right (by omega),Nat.add_sub_cancel_left,List.getElem?_append_left this]
   exact h
 · rw [List.getElem?_append_right (by omega),List.getElem?_append_right (by omega)]
   rw [show pre.length+σ.length+q-pre.length-σ.length=q from by omega]
   exact h
theorem afp {rd:Option Nat} {D:List Deferred} {az:Fr} {calls:Nat→du} {es:List eo} {bF:bx} {bb:af} {cL:bx} {aA:af} {dY order aE:List Nat} (bD:ec P) (cH:∀i,fP P (calls i)) (dh:∀i,f' P (calls i))
 (C:Cert P ax ops calls es bF bb cL aA dY order aE ops.size ops.size true) {fQ:Env} {Q:Exit→Act→World→Prop}
 (c2:∀ay bk ar,fQ.le ay→RegRel0 ay ax cL bk→bk.defers=D→a8 az ay aA ar→Q .normal bk ar) {uR:List Nat}
 (dD:∀i k,k3 ops i=true→k3 ops k=true→posOf aE k<posOf aE i→∀a b,uR=a++i::b→k ∈ a):
 ∀(fuel t:Nat) (listed:Array Bool) (done:List Nat) (a:Act) (w:World),uR=done++Region.linearise.go .any ops fuel t listed []→(∀k,k<ops.size→(listed.getD k false=true↔k ∈ done))→
  (List.range ops.size).countP (fun i=>!listed.getD i false)≤fuel→oJ P az ax ops es bF aA dY aE fQ ops.size D listed a w→wpOpsIn (b4 rd) 0 P ops Q (Region.linearise.go .any ops fuel t listed []) a w:=by
 have hv:∀i o,ops[i]? =some o→k8 i o=true:=fun i o h=>by obtain ⟨_,_,ae,_⟩:=C.lE i o h;exact ae
 have fin:∀(listed:Array Bool) (a:Act) (w:World),(∀k,k<ops.size→listed.getD k false=true)→oJ P az ax ops es bF aA dY aE fQ ops.size D listed a w→Q .normal a w:=by
  intro listed a w dT I
  obtain ⟨ay,g1,g2,g3,g4⟩:=L6 C (Nat.le_refl _) I fun k aD _=>dT k aD
  exact c2 ay a w g1 g2 g3 g4
 intro fuel
 induction fuel with
 | zero=>
   intro t listed done a w nV G7 aw I
   have bb:(List.range ops.size).countP (fun i=>!listed.getD i false)=0:=by omega
   rw [List.countP_eq_zero] at bb
   exact fin listed a w (fun k aD=>by simpa using bb k (List.mem_range.2 aD)) I
 | succ fuel bg=>
   intro t listed done a w nV G7 aw I
   rw [go_succ] at nV ⊢
   cases aJ:ud ops t listed with
   | none=>exact fin listed a w (fun k aD=>wL hv I.qH (QK aJ) k aD) I
   | some i=>
     rw [aJ] at nV
     simp only at nV ⊢
     obtain ⟨i1,i2⟩:=ue I.qH (Jc aJ)
     have ak:i<listed.size:=by rw [I.qH];exact i1
     have aaW:=count_set I.qH i1 i2
     rw [wpOpsIn_cons]
     refine Md bD cH dh C I (Jc aJ) (C.hl i i1).1 (fun _ o k ok cn tn BM abn aN=>?_) (fun bk ar DO=>bg _ _ (done++[i]) bk ar (by rw [List.append_assoc];exact nV) (fun k aD=>?_) (by omega) DO) (fun _ _ _ _ _ _ _ h=>absurd h (Nat.lt_irrefl _))
     · have aD:k<ops.size:=(Array.getElem?_eq_some_iff.1 BM).1
       exact (G7 k aD).2 (dD i k (by unfold k3;rw [cn];exact tn) (by unfold k3;rw [BM];exact abn) aN _ _ nV)
     · rw [e4 ak,G7 k aD,List.mem_append,List.mem_singleton]
       exact Or.comm
noncomputable def F1 (ops:Array Oper) (r:bx) (b:aQ) (i:Nat):V × V:=
 match ops[i]? with
 | some o=>(match rT ops r b o with
   | some m=>(m.k,m.v)
   | none=>(.bad,.bad))
 | none=>(.bad,.bad)
theorem Mm {r:bx} {b:aQ} {i:Nat} {m:ca} (h:jE ops r b i m):F1 ops r b i=(m.k,m.v):=by
 obtain ⟨o,aa,ae⟩:=h
 unfold F1
 rw [aa]
 simp only [ae]
theorem Pp {r:bx} {b:aQ}:∀{is:List Nat} {ms:List ca},nH (jE ops r b) is ms→ms.map (fun m=>(m.k,m.v))=is.map (F1 ops r b)
 | _,_,.nil=>rfl
 | _,_,.cons bb aG=>by
   simp only [List.map_cons,Pp aG,Mm bb]
set_option maxHeartbeats 1000000 in
theorem afr {rd:Option Nat} {az:Fr} {E:Env} {h:af} {w:World} {id:Nat} (c1:P.follows .mixedOrders=true) (bD:ec P) (cH:fP P call) (dh:f' P call) {r:bx} {a:Act} {order aE:List Nat} {cA dc:Nat} (fk:kt ops.size order aE=true)
 {Q:Exit→Act→World→Prop} (aj:l9 az E ax (Q .normal) Q (Ig P ax ops order aE cA dc (eU P ax ops (gA ops order)) call r h)) (k:eP E ax r a) (s:a8 az E h w):(Code.region id ops true).wpIn (b4 rd) 0 P Q a w:=by
 unfold Ig at aj
 cases cK:(eU P ax ops (gA ops order)).run call r h with
 | fail=>rw [cK] at aj;exact aj.elim
 | cw _ _ _ _ _=>rw [cK] at aj;exact aj.elim
 | ok es eK ba=>
 rw [cK] at aj
 simp only at aj
 cases mm:Cj ops order es cA with
 | none=>rw [mm] at aj;exact aj.elim
 | some x=>
 obtain ⟨b,h3,A⟩:=x
 rw [mm] at aj
 simp only at aj
 cases iv:(b' es ba cA).get b<;>rw [iv] at aj<;>try (exact False.elim aj)
 rename_i Zd j8
 cases Zd with
 | cons _ _=>exact False.elim aj
 | nil=>
 simp only at aj
 cases vK:tJ ops h3 b ((order.drop cA).take (dc-cA)) with
 | none=>rw [vK] at aj;exact aj.elim
 | some ms=>
 rw [vK] at aj
 simp only at aj
 cases aw:(y0 P ops aE cA dc A.t&&(xu (rW P A.t) ms&&(y1 P ops es (b' es ba cA) b call ax (order.take cA) 0&&xU ((bO A.m).run eK) (.map b)))) with
 | false=>rw [aw] at aj;exact aj.elim
 | true=>
 rw [aw] at aj
 simp only [cond_true] at aj
 simp only [Bool.and_eq_true] at aw
 obtain ⟨BN,BD,dI,qs⟩:=aw
 have qs:=F6 qs
 obtain ⟨nf,Qk,alc⟩:=Qd fk
 have Hh:order.Nodup:=aga fun p i h=>(wJ fk h).1
 obtain ⟨cT,i0,fM,GJ,tl,abJ,x2,aa'⟩:=afn mm
 obtain ⟨ahi,-,-,-⟩:=sl cK
 have hlen:es.length=ops.size:=by rw [ahi,ov,nf]
 have hW:cA<ops.size:=by rw [←nf];exact (List.getElem?_eq_some_iff.1 tl).1
 have lE:=afm BN
 generalize pc:order.take cA=pre at dI
 generalize tn:(order.drop cA).take (dc-cA)=ins at vK
 generalize NZ:(order.drop cA).drop (dc-cA)=post
 have oa:order=pre++(ins++post):=by rw [←pc,←tn,←NZ,List.take_append_drop,List.take_append_drop]
 have vO:pre.length=cA:=by rw [←pc,List.length_take];omega
 have akD:cA<dc:=by
  obtain ⟨tv,_⟩:=wJ fk tl
  rcases Nat.lt_or_ge cA dc with h | h
  · exact h
  · exfalso
    obtain ⟨_,_,_,_,_,_,f3⟩:=lE i0 fM abJ
    obtain ⟨au,_⟩:=f3 (by omega) (by omega)
    rw [(B7 (P:=P) x2).2.1] at au
    cases au
 have abm:ins.length=dc-cA∨post=[]:=by
  rcases Nat.lt_or_ge (dc-cA) (order.drop cA).length with h | h
  · left;rw [←tn,List.length_take];omega
  · right;rw [←NZ];exact List.drop_eq_nil_of_le h
 have Eu:∀q i,pre[q]? =some i→posOf aE i=q∧i<ops.size∧q<cA:=by
  intro q i h
  have aF:=(List.getElem?_eq_some_iff.1 h).1
  obtain ⟨aa,ae⟩:=wJ fk (p:=q) (i:=i) (by rw [oa,List.getElem?_append_left aF];exact h)
  exact ⟨aa,ae,by omega⟩
 have Es:∀q i,ins[q]? =some i→posOf aE i=cA+q∧i<ops.size∧cA+q<dc:=by
  intro q i h
  have aF:=(List.getElem?_eq_some_iff.1 h).1
  obtain ⟨aa,ae⟩:=wJ fk (p:=cA+q) (i:=i) (by
   rw [oa,List.getElem?_append_right (by omega),vO,Nat.add_sub_cancel_left,List.getElem?_append_left aF];exact h)
  refine ⟨aa,ae,?_⟩
  have:ins.length≤dc-cA:=by rw [←tn,List.length_take];omega
  omega
 have Et:∀q i,post[q]? =some i→posOf aE i=cA+ins.length+q∧i<ops.size∧ins.length=dc-cA:=by
  intro q i h
  have ak:ins.length=dc-cA:=by
   rcases abm with ab | ab
   · exact ab
   · rw [ab] at h;simp at h
  obtain ⟨aa,ae⟩:=wJ fk (p:=cA+ins.length+q) (i:=i) (by
   rw [oa,List.getElem?_append_right (by omega),List.getElem?_append_right (by omega),vO,show cA+ins.length+q-cA-ins.length=q from by omega];exact h)
  exact ⟨aa,ae,ak⟩
 have R2:∀i,i<ops.size→(∃q:Nat,pre[q]? =some i)∨(∃q:Nat,ins[q]? =some i)∨∃q:Nat,post[q]? =some i:=by
  intro i av
  have hm:i ∈ order:=List.mem_of_getElem? (Qk i av).2
  rw [oa,List.mem_append,List.mem_append] at hm
  rcases hm with h | h | h
  · exact .inl (List.mem_iff_getElem?.1 h)
  · exact .inr (.inl (List.mem_iff_getElem?.1 h))
  · exact .inr (.inr (List.mem_iff_getElem?.1 h))
 have I1:∀i o,i ∈ pre→ops[i]? =some o→jS o=false∧dP P o=false∧(looks o.op=true→er P o.op=false→∃t x,o.op=.load t x):=by
  intro i o av aU
  obtain ⟨q,aF⟩:=List.mem_iff_getElem?.1 av
  obtain ⟨aa,ae,aI⟩:=Eu q i aF
  obtain ⟨_,_,_,_,f1,_,_⟩:=lE i o aU
  exact f1 (by omega)
 have yO:∀i,i ∈ ins→∃o iH,ops[i]? =some o∧kl o=some iH∧iH.t=A.t:=by
  intro i av
  obtain ⟨q,aF⟩:=List.mem_iff_getElem?.1 av
  obtain ⟨aa,ae,aI⟩:=Es q i aF
  obtain ⟨_,_,_,_,_,f2,_⟩:=lE i _ (Array.getElem?_eq_getElem ae)
  obtain ⟨iH,g1,g2⟩:=f2 (by omega) (by omega)
  exact ⟨_,iH,Array.getElem?_eq_getElem ae,g1,g2⟩
 have zp:∀i o,i ∈ post→ops[i]? =some o→er P o.op=false∧looks o.op=false:=by
  intro i o av aU
  obtain ⟨q,aF⟩:=List.mem_iff_getElem?.1 av
  obtain ⟨aa,ae,aI⟩:=Et q i aF
  obtain ⟨_,_,_,_,_,_,f3⟩:=lE i o aU
  exact f3 (by omega) (by omega)
 have HY:∀i,i<ops.size→(k3 ops i=true↔i ∈ ins):=by
  intro i av
  have cn:ops[i]? =some ops[i]:=Array.getElem?_eq_getElem av
  constructor
  · intro h
    unfold k3 at h
    rw [cn] at h
    simp only at h
    rcases R2 i av with ⟨q,aF⟩ | ⟨q,aF⟩ | ⟨q,aF⟩
    · rw [(I1 i _ (List.mem_of_getElem? aF) cn).1] at h;cases h
    · exact List.mem_of_getElem? aF
    · have:=(zp i _ (List.mem_of_getElem? aF) cn).1
      rw [(acU (P:=P) h).1] at this
      cases this
  · intro h
    obtain ⟨o,iH,g1,g2,_⟩:=yO i h
    unfold k3
    rw [g1]
    exact (B7 (P:=P) g2).1
 have Hi:ins.Nodup:=by
  rw [oa] at Hh
  exact (List.nodup_append.1 (List.nodup_append.1 Hh).2.1).1
 have yy:=cK
 rw [oa,zg,zg] at yy
 obtain ⟨gG,bp,aa,Ze,qw,N1,lI⟩:=JD _ _ yy
 obtain ⟨o0,bT,ae,F7,kj,abV,akx⟩:=JD _ _ N1
 obtain ⟨fC,-,-,-⟩:=sl qw
 rw [ov,vO] at fC
 obtain ⟨-,bU,bQ,-⟩:=sl N1
 have Nx:Ze[0]? =some cT:=by
  rw [lI,List.getElem?_append_right (by omega),fC,Nat.sub_self] at GJ
  exact GJ
 have abX:bp=h3:=by
  unfold dS at bQ
  rw [Nx] at bQ
  exact bQ.symm.trans aa'
 have abh:b' es ba cA=aa:=by
  unfold b' at bU ⊢
  rw [GJ]
  rw [Nx] at bU
  exact bU
 subst abX
 rw [abh] at iv dI
 have qd:∀i ∈ ins,∃o iH m,ops[i]? =some o∧kl o=some iH∧(yT P iH.t=true∧rW P iH.t=rW P A.t)∧rT ops bp b o=some m∧∃v H1 cD,(ct P ax ops o).run call bp H1=.val v cD:=by
  intro i av
  obtain ⟨o,iH,g1,g2,g3⟩:=yO i av
  obtain ⟨m,_,b6,g4,g5⟩:=(B6 vK).left i av
  rw [g1] at g4;cases g4
  refine ⟨o,iH,m,g1,g2,⟨by rw [g3];unfold y0 at BN;rw [Bool.and_eq_true] at BN;exact BN.1,by rw [g3]⟩,g5,Oz (gA ops ins) (fun cW vL=>?_) kj o ?_⟩
  · obtain ⟨q,aF⟩:=List.mem_iff_getElem?.1 vL
    have rL:q<ins.length:=by rw [←ov (ops:=ops)];exact (List.getElem?_eq_some_iff.1 aF).1
    obtain ⟨r6,lh,yR,tK,_⟩:=yO _ (List.getElem_mem rL)
    have:=lZ (List.getElem?_eq_getElem rL) yR
    rw [aF] at this;cases this
    exact (yN tK).2.1
  · obtain ⟨q,aF⟩:=List.mem_iff_getElem?.1 av
    exact List.mem_of_getElem? (lZ aF g1)
 have BE:=KM (B6 vK) Hi BD
 obtain ⟨akc,ak2,aj6,lk,Gj,akh,aki,ZP,_,akj⟩:=H0 qd BE ins [] [] j8 aa (fun i av=>av) (fun i av=>by simp at av) (by simpa using Hi) (fun m hm=>by simp at hm) iv
 rw [kj] at Gj
 simp only [oK.ok.injEq] at Gj
 obtain ⟨-,abU,aaB⟩:=Gj
 subst abU aaB
 obtain ⟨tk,abT⟩:=QH (gA ops post) (fun cW vL=>by
  obtain ⟨q,aF⟩:=List.mem_iff_getElem?.1 vL
  have rL:q<post.length:=by rw [←ov (ops:=ops)];exact (List.getElem?_eq_some_iff.1 aF).1
  obtain ⟨_,NG,_⟩:=Et q _ (List.getElem?_eq_getElem rL)
  have:=lZ (List.getElem?_eq_getElem rL) (Array.getElem?_eq_getElem NG)
  rw [aF] at this;cases this
  exact zp _ _ (List.getElem_mem rL) (Array.getElem?_eq_getElem NG)) abV
 subst tk
 refine wpIn_region_draw fun t=>?_
 simp only [Region.schedule,c1,Bool.true_or,if_true]
 have hv:∀i o,ops[i]? =some o→k8 i o=true:=fun i o h=>by obtain ⟨_,_,ae,_⟩:=lE i o h;exact ae
 have de:∀k,¬(Array.replicate ops.size false).getD k false=true:=by
  intro k
  rw [rA,Array.getElem?_replicate]
  split<;>simp
 obtain ⟨s1,s2,ky⟩:=M5 (ops:=ops) hv ops.size t (Array.replicate ops.size false) (by simp) (Nat.le_trans List.countP_le_length (by simp))
 change wpOpsIn (b4 rd) 0 P ops Q (Region.linearise.go .any ops ops.size t (Array.replicate ops.size false) []) a {w with drawn:=w.drawn+1}
 generalize nV:Region.linearise.go .any ops ops.size t (Array.replicate ops.size false) []=uR at s1 s2 ky
 generalize HT:uR.filter (k3 ops)=σ
 have Ir:∀k,k ∈ σ↔k ∈ ins:=by
  intro k
  rw [←HT,List.mem_filter]
  constructor
  · rintro ⟨g1,g2⟩
    exact (HY k (s2 k g1).1).1 g2
  · intro g
    obtain ⟨q,aF⟩:=List.mem_iff_getElem?.1 g
    have aD:=(Es q k aF).2.1
    refine ⟨?_,(HY k aD).2 g⟩
    rcases ky k aD with h | h
    · exact absurd h (de k)
    · exact h
 have NS:σ.Nodup:=by rw [←HT];exact s1.filter _
 have Hs:σ.Perm ins:=(List.perm_ext_iff_of_nodup NS Hi).2 Ir
 have Oj:σ.length=ins.length:=Hs.length_eq
 have ki:(pre++(σ++post)).Perm order:=by
  rw [oa]
  exact (Hs.append_right post).append_left pre
 have Hj:(pre++(σ++post)).Nodup:=ki.nodup_iff.2 Hh
 have yj:(pre++(σ++post)).length=ops.size:=by rw [ki.length_eq,nf]
 have AH:=ai2 Hj
 generalize abP:(List.range ops.size).map (fun k=>(pre++(σ++post)).idxOf k)=jv
 have vN:∀k,k<ops.size→posOf jv k=(pre++(σ++post)).idxOf k:=by
  intro k aD
  rw [←abP]
  unfold posOf
  rw [List.getElem?_map,List.getElem?_range aD]
  rfl
 have zk:∀i,i<ops.size→i ∈ pre→posOf jv i=posOf aE i∧posOf aE i<cA:=by
  intro i av hm
  obtain ⟨q,aF⟩:=List.mem_iff_getElem?.1 hm
  obtain ⟨g1,_,g3⟩:=Eu q i aF
  rw [vN i av,(AH i q).1 aF,g1]
  exact ⟨rfl,g3⟩
 have zj:∀i,i<ops.size→i ∈ ins→∃q:Nat,σ[q]? =some i∧posOf jv i=cA+q∧q<ins.length∧cA≤posOf aE i∧posOf aE i<cA+ins.length:=by
  intro i av hm
  obtain ⟨q,aF⟩:=List.mem_iff_getElem?.1 ((Ir i).2 hm)
  obtain ⟨dZ,mo⟩:=List.mem_iff_getElem?.1 hm
  obtain ⟨g1,_,g3⟩:=Es dZ i mo
  have:=(List.getElem?_eq_some_iff.1 aF).1
  have:=(List.getElem?_eq_some_iff.1 mo).1
  exact ⟨q,aF,by rw [vN i av,(AH i q).2.1 aF,vO],by omega,by omega,by omega⟩
 have IV:∀i,i<ops.size→i ∈ post→posOf jv i=posOf aE i∧cA+ins.length≤posOf aE i:=by
  intro i av hm
  obtain ⟨q,aF⟩:=List.mem_iff_getElem?.1 hm
  obtain ⟨g1,_,_⟩:=Et q i aF
  rw [vN i av,(AH i q).2.2 aF,g1,Oj,vO]
  exact ⟨rfl,by omega⟩
 have cls:∀i,i<ops.size→i ∈ pre∨i ∈ ins∨i ∈ post:=by
  intro i av
  rcases R2 i av with ⟨q,aF⟩ | ⟨q,aF⟩ | ⟨q,aF⟩
  · exact .inl (List.mem_of_getElem? aF)
  · exact .inr (.inl (List.mem_of_getElem? aF))
  · exact .inr (.inr (List.mem_of_getElem? aF))
 obtain ⟨s0,ak3,FE,xa,MW,ZQ,ZR,ZS,ZU,ZT⟩:=H0 qd BE σ [] [] j8 aa (fun i av=>(Ir i).1 av) (fun i av=>by simp at av) (by simpa using NS) (fun m hm=>by simp at hm) iv
 obtain ⟨ve,abW⟩:=abT xa
 have N5:=JE _ _ qw (JE _ _ MW abW)
 rw [←zg,←zg] at N5
 obtain ⟨aeR,-,-,-⟩:=sl MW
 rw [ov,Oj] at aeR
 obtain ⟨cy,z2,z3,z4⟩:=sl N5
 rw [ov,yj] at cy
 have Ql:∀k,k<ops.size→posOf jv k<ops.size∧(pre++(σ++post))[posOf jv k]? =some k:=by
  intro k aD
  have hm:k ∈ pre++(σ++post):=ki.mem_iff.2 (List.mem_of_getElem? (Qk k aD).2)
  obtain ⟨q,aF⟩:=List.mem_iff_getElem?.1 hm
  have Ht:=wa Hj aF
  rw [vN k aD,Ht]
  have:=(List.getElem?_eq_some_iff.1 aF).1
  exact ⟨by omega,aF⟩
 have agT:∀p,p<ops.size→∃i,i<ops.size∧posOf jv i=p:=by
  intro p aj
  have aF:(pre++(σ++post))[p]? =some ((pre++(σ++post))[p]'(by omega)):=List.getElem?_eq_getElem _
  have hm:(pre++(σ++post))[p]'(by omega) ∈ order:=ki.mem_iff.1 (List.getElem_mem _)
  obtain ⟨q,vP⟩:=List.mem_iff_getElem?.1 hm
  have aN:=(wJ fk vP).2
  exact ⟨_,aN,by rw [vN _ aN];exact wa Hj aF⟩
 have LK:∀j o,ops[j]? =some o→dP P o=true→j ∈ ins:=by
  intro j o aU kR
  rcases cls j (Array.getElem?_eq_some_iff.1 aU).1 with h | h | h
  · rw [(I1 j o h aU).2.1] at kR;cases kR
  · exact h
  · unfold dP at kR
    rw [(zp j o h aU).1] at kR
    cases kR
 have HZ:∀k ok,k ∈ ins→ops[k]? =some ok→ok.dst=none∧jS ok=true:=by
  intro k ok aD bl
  obtain ⟨o,iH,g1,g2,_⟩:=yO k aD
  rw [bl] at g1;cases g1
  exact ⟨(yN g2).2.1,(B7 (P:=P) g2).1⟩
 have Uj:∀st,st=ops.size∨(∃k,k<ops.size∧k ∈ ins∧st=posOf jv k)→∀c,b≠c→(b' (gG++(s0++ve)) xa st).get c=aa.get c:=by
  rintro st (rfl | ⟨k,aD,fJ,rfl⟩) c aw
  · unfold b'
    rw [List.getElem?_eq_none (by omega)]
    exact ZR c aw
  · obtain ⟨q,_,g2,g3,_⟩:=zj k aD fJ
    have Hu:q<s0.length:=by omega
    unfold b'
    rw [g2,List.getElem?_append_right (by omega),fC,Nat.add_sub_cancel_left,List.getElem?_append_left Hu,List.getElem?_eq_getElem Hu]
    exact ZU _ (List.getElem_mem Hu) c aw
 have C:Cert P ax ops (fun _=>call) (gG++(s0++ve)) r h eK xa (gN P jv 0 ops.toList) (pre++(σ++post)) jv ops.size ops.size true:=by
  refine ⟨cy,Nat.le_refl _,Nat.le_refl _,Ql,agT,z2,z3,?_,?_,?_,?_,?_,?_,fun h=>absurd h (Nat.lt_irrefl _),fun h=>absurd h (Nat.lt_irrefl _)⟩
  · intro i o aU _
    exact z4 _ o (lZ (Ql i (Array.getElem?_eq_some_iff.1 aU).1).2 aU)
  · intro i o cn
    obtain ⟨cB,f1,f2,f3,_⟩:=lE i o cn
    refine ⟨cB,f1,f2,fun _ k ok bl _=>?_⟩
    obtain ⟨mk,f4,f5⟩:=f3 k ok bl
    have av:i<ops.size:=(Array.getElem?_eq_some_iff.1 cn).1
    have aD:k<ops.size:=(Array.getElem?_eq_some_iff.1 bl).1
    refine ⟨mk,f4,?_,fun he kR aN=>?_⟩
    · by_cases fJ:k ∈ ins
      · unfold ny
        rw [(HZ k ok fJ bl).1]
        simp
      · have ai:Nat.blt (posOf jv k) (posOf jv i)=Nat.blt (posOf aE k) (posOf aE i):=by
         rw [Bool.eq_iff_iff,Nat.blt_eq,Nat.blt_eq]
         rcases cls k aD with aw | aw | aw
         · obtain ⟨bM,a2⟩:=zk k aD aw
           rcases cls i av with aY | aY | aY
           · obtain ⟨bR,cb⟩:=zk i av aY;omega
           · obtain ⟨q,_,cb,hr,lr,lu⟩:=zj i av aY;omega
           · obtain ⟨bR,cb⟩:=IV i av aY;omega
         · exact absurd aw fJ
         · obtain ⟨bM,a2⟩:=IV k aD aw
           rcases cls i av with aY | aY | aY
           · obtain ⟨bR,cb⟩:=zk i av aY;omega
           · obtain ⟨q,_,cb,hr,lr,lu⟩:=zj i av aY;omega
           · obtain ⟨bR,cb⟩:=IV i av aY;omega
        rw [ai]
        exact f5
    · have fJ:=LK k ok bl kR
      obtain ⟨ald,_,cb,hr,lr,lu⟩:=zj k aD fJ
      rcases cls i av with aY | aY | aY
      · obtain ⟨bM,a2⟩:=zk i av aY;omega
      · exact .inr ⟨rfl,(HZ i o aY cn).2,(HZ k ok fJ bl).2⟩
      · rw [(zp i o aY cn).1] at he;cases he
  · have:=Ch (P:=P) (aE:=jv) (l:=ops.toList) (i:=0)
    simpa using this
  · intro j o g1 g2
    have:=wi (P:=P) (aE:=jv) (i:=0) (j:=j) (l:=ops.toList) (o:=o) (by simpa using g1) g2
    simpa using this
  · intro st cz
    rcases r0 cz with h | ⟨j,o,g1,g2,g3⟩
    · exact .inl (.inl (by simpa using h))
    · exact .inr ⟨j,o,by simpa using g1,g2,by simpa using g3⟩
  · intro j o pa ak he _
    have bH:j<ops.size:=(Array.getElem?_eq_some_iff.1 pa).1
    have mi:j ∈ pre:=by
     rcases cls j bH with aY | aY | aY
     · exact aY
     · obtain ⟨b6,iH,g1,g2,_⟩:=yO j aY
       rw [pa] at g1;cases g1
       rw [(B7 (P:=P) g2).2.1] at he;cases he
     · rw [(zp j o aY pa).2] at ak;cases ak
    obtain ⟨uk,R',kZ⟩:=(I1 j o mi pa).2.2 ak he
    obtain ⟨q,aF⟩:=List.mem_iff_getElem?.1 mi
    obtain ⟨bM,_,a3⟩:=Eu q j aF
    obtain ⟨e,c,off,ab,d_,gC,y3,y4,J1⟩:=Pc dI q j o uk R' aF pa kZ
    have aa7:(gG++(s0++ve))[posOf jv j]? =some e:=by
     rw [(zk j bH mi).1,bM,List.getElem?_append_left (by omega)]
     rw [Nat.zero_add,lI,List.getElem?_append_left (by omega)] at d_
     exact d_
    refine ⟨e,aa7,fun st cz _=>⟨call,_,⟨cH,dh⟩,YV kZ y4 J1 gC _ (Uj st ?_ c fun h=>y3 h.symm)⟩⟩
    rcases r0 cz with h | ⟨bn,b6,g1,g2,g3⟩
    · exact .inl (by simpa using h)
    · have BR:ops[bn]? =some b6:=by simpa using g1
      exact .inr ⟨bn,(Array.getElem?_eq_some_iff.1 BR).1,LK bn b6 BR g2,by simpa using g3⟩
 have kd:∀(ay:Env) (bk:Act),E.le ay→bk.defers=a.defers→∀(bt:bx),T.get .bad ep bt=T.get .bad ep r→j5 ay (T.get .bad ep bt) bk.defers:=fun ay bk he aY bt qv=>by rw [qv,aY];exact k.defers.mono he
 have BH:T.get .bad ep eK=T.get .bad ep r:=by
  have:=C.FT ops.size (Nat.le_refl _)
  have Hk:(gG++(s0++ve))[ops.size]? =none:=List.getElem?_eq_none (by omega)
  unfold dS at this
  rw [Hk] at this
  exact this
 have iP:Holds az az (gG++(s0++ve)) xa jv (iI ops (gG++(s0++ve)) xa jv (Array.replicate ops.size false) 0):=
  ⟨rfl,fun _ _=>rfl,fun k aD=>(by obtain ⟨_,_,_,_,bb⟩:=aD;omega),fun k bn aD=>(by obtain ⟨_,_,_,_,bb⟩:=aD;omega)⟩
 obtain ⟨fY,dJ,g1,g2,g3,g4,g5,g6⟩:=C.advance ops.size 0 (by omega) (fun k o _ _ _=>de k) az iP (E:=E) (w:={w with drawn:=w.drawn}) (by rw [C.bb];exact s.same rfl rfl rfl rfl)
 rw [←nV]
 refine afp (az:=az) bD (fun _=>cH) (fun _=>dh) C (fQ:=E) (D:=a.defers) (uR:=uR) (fun ay bk ar al aq aK bG=>?_) (fun i k av aD aN bk bJ aaK=>?_) ops.size t _ [] a _ (by rw [nV];rfl) (fun k _=>⟨fun h=>absurd h (de k),fun h=>by simp at h⟩) (Nat.le_trans List.countP_le_length (by simp)) ?_
 · refine aj ay bk ar al ⟨aq,kd ay bk al aK eK BH⟩ ?_
   have hI:=dv aq A.m
   rw [qs] at hI
   simp only [Rel] at hI
   obtain ⟨p,aaz,_⟩:=hI
   rw [ZP,←ZS]
   refine bG.forget ZQ aaz ?_
   rw [List.nil_append,Pp (B6 vK),Po (fun i m h=>Mm h) ZT]
   exact Hs.symm.map _
 · have mh:i<ops.size:=by
    unfold k3 at av
    cases aU:ops[i]? with
    | none=>rw [aU] at av;cases av
    | some o=>exact (Array.getElem?_eq_some_iff.1 aU).1
   have G1:k<ops.size:=by
    unfold k3 at aD
    cases aU:ops[k]? with
    | none=>rw [aU] at aD;cases aD
    | some o=>exact (Array.getElem?_eq_some_iff.1 aU).1
   have fJ:=(HY k G1).1 aD
   have Oi:σ=bk.filter (k3 ops)++i::bJ.filter (k3 ops):=by rw [←HT,aaK,List.filter_append,List.filter_cons_of_pos av]
   have iz:posOf jv i=cA + (bk.filter (k3 ops)).length:=by
    rw [vN i mh,(AH i (bk.filter (k3 ops)).length).2.1 (by rw [Oi,List.getElem?_append_right (Nat.le_refl _),Nat.sub_self];rfl),vO]
   obtain ⟨q,aF,BT,_⟩:=zj k G1 fJ
   have rL:q < (bk.filter (k3 ops)).length:=by omega
   rw [Oi,List.getElem?_append_left rL] at aF
   exact (List.mem_filter.1 (List.mem_of_getElem? aF)).1
 · refine ⟨by simp,k.size,rfl,fun bn aD=>absurd aD (de bn),fun bn o e aD=>absurd aD (de bn),E,fY,dJ,Env.le.refl E,g1,g3,fun bn o aa ae=>⟨fun h=>absurd h (de bn),fun h=>by have:=g4 bn o aa ae (Nat.zero_le _);omega⟩,
    fun bn o _ _ h=>absurd h (de bn),g5,?_,fun t aG=>.inr ⟨fun bn o aD=>absurd aD (de bn),k.an t aG⟩⟩
   exact g6.same rfl rfl rfl rfl
theorem YY {rd:Option Nat} {az:Fr} {E:Env} {h:af} {w:World} {id:Nat} (c1:P.follows .mixedOrders=true) (bD:ec P) (cH:fP P call) (dh:f' P call) {r:bx} {a:Act}
 {Q:Exit→Act→World→Prop} (aj:l9 az E ax (Q .normal) Q ((FP P ax ops).run call r h)) (k:eP E ax r a) (s:a8 az E h w):(Code.region id ops true).wpIn (b4 rd) 0 P Q a w:=by
 unfold FP at aj
 generalize zi P ops=order at aj
 generalize CU order 0 ops.toList=aE at aj
 unfold Mb at aj
 cases aA:(kt ops.size order aE&&u9 P ops aE) with
 | false=>
   rw [aA] at aj
   simp only [cond_false] at aj
   cases h_:(kt ops.size order aE&&zD P ops order aE) with
   | false=>
     rw [h_] at aj
     simp only [cond_false] at aj
     cases GP:kt ops.size order aE with
     | false=>rw [GP] at aj;exact aj.elim
     | true=>
       rw [GP] at aj
       simp only [cond_true] at aj
       exact afr c1 bD cH dh GP aj k s
   | true=>
     rw [h_] at aj
     simp only [cond_true] at aj
     simp only [Bool.and_eq_true] at h_
     exact YZ c1 bD cH dh h_.1 h_.2 aj k s
 | true=>
   rw [aA] at aj
   simp only [cond_true] at aj
   simp only [Bool.and_eq_true] at aA
   obtain ⟨fk,gv⟩:=aA
   unfold kt at fk
   simp only [Bool.and_eq_true,Nat.beq_eq] at fk
   obtain ⟨nf,vL,yn,yo⟩:=fk
   have hl:∀k,k<ops.size→posOf aE k<ops.size∧order[posOf aE k]? =some k:=by
    intro k aD
    have aH:aE[k]? =some (posOf aE k):=by
     unfold posOf
     rw [List.getElem?_eq_getElem (by omega)]
     rfl
    have:=sa yn aH
    rw [Nat.zero_add] at this
    exact ⟨by have:=(List.getElem?_eq_some_iff.1 this).1;omega,this⟩
   have j1:∀p,p<ops.size→∃i,i<ops.size∧posOf aE i=p:=by
    intro p aj
    have aH:order[p]? =some (order[p]'(by omega)):=List.getElem?_eq_getElem (by omega)
    have:=sa yo aH
    rw [Nat.zero_add] at this
    refine ⟨order[p]'(by omega),by have:=(List.getElem?_eq_some_iff.1 this).1;omega,?_⟩
    unfold posOf
    rw [this]
    rfl
   have JC:∀j o,ops[j]? =some o→dP P o=true→posOf aE j ∈ gN P aE 0 ops.toList:=fun j o aa ae=>by simpa using wi (aE:=aE) (i:=0) (j:=j) (l:=ops.toList) (by simpa using aa) ae
   have aiC:ops.size ∈ gN P aE 0 ops.toList:=by simpa using Ch (P:=P) (aE:=aE) (l:=ops.toList) (i:=0)
   have Ry:∀N M,∀s ∈ gN P aE 0 ops.toList,(s=ops.size∨(s=N∧M=N))∨∃k o,ops[k]? =some o∧dP P o=true∧s=posOf aE k:=fun N M s aR=>by
    rcases r0 aR with h | ⟨j,o,aa,ae,aI⟩
    · exact .inl (.inl (by simpa using h))
    · exact .inr ⟨j,o,by simpa using aa,ae,by simpa using aI⟩
   have NA:∀i o,ops[i]? =some o→∃cB,(ef [] ops.toList)[i]? =some cB∧k8 i o=true∧(posOf aE i<ops.size→
    ∀k ok,ops[k]? =some ok→posOf aE k<ops.size→∃mk,(ef [] ops.toList)[k]? =some mk∧ny i cB (b2 ops o) o.dst k mk ok (Nat.blt (posOf aE k) (posOf aE i))=true∧(er P o.op=true→dP P ok=true→posOf aE k<posOf aE i→e_ cB k=true∨(false=true∧jS o=true∧jS ok=true))):=by
    intro i o av
    obtain ⟨cB,g1,g2,g3⟩:=Ma gv i o av
    exact ⟨cB,g1,g2,fun _ k ok aD _=>by
     obtain ⟨mk,d_,gC,y3⟩:=g3 k ok aD
     exact ⟨mk,d_,gC,fun a b c=>.inl (y3 a b c)⟩⟩
   have main:∀(q:zQ),
    (∀es nc N,es.length=N→N≤ops.size→(∀i o,ops[i]? =some o→posOf aE i<N→∃e,es[posOf aE i]? =some e∧(ct P ax ops o).run call e.r e.h=.val e.v (b' es nc (posOf aE i+1)))→
      (N<ops.size→∃i0 fM,ops[i0]? =some fM∧posOf aE i0=N∧dP P fM=true)→q.run call es nc=true→∀j o,ops[j]? =some o→looks o.op=true→er P o.op=false→posOf aE j<N→∃e,es[posOf aE j]? =some e∧∀s ∈ gN P aE 0 ops.toList,
      qJ P (ef [] ops.toList) ops.toList aE j (((ef [] ops.toList)[j]?).getD 0) s=true→∃ab,(ct P ax ops o).run call e.r (b' es nc s)=.val e.v ab)→
    l9 az E ax (Q .normal) Q (A5 ops order aE (eU P ax ops (gA ops order)) q call r h)→(Code.region id ops true).wpIn (b4 rd) 0 P Q a w:=by
    intro q rE cK
    unfold A5 at cK
    cases cz:(eU P ax ops (gA ops order)).run call r h with
    | fail=>rw [cz] at cK;exact cK.elim
    | ok es eK ba=>
      rw [cz] at cK
      simp only at cK
      cases aF:q.run call es ba with
      | false=>rw [aF] at cK;exact cK.elim
      | true=>
        rw [aF] at cK
        simp only [cond_true] at cK
        obtain ⟨al,aq,aK,bG⟩:=sl cz
        have hlen:es.length=ops.size:=by rw [al,ov,nf]
        have gU:∀i o,ops[i]? =some o→posOf aE i<ops.size→∃e,es[posOf aE i]? =some e∧(ct P ax ops o).run call e.r e.h=.val e.v (b' es ba (posOf aE i+1))∧dS es eK (posOf aE i+1)=(eZ o.dst).run e.r e.v:=
         fun i o aU _=>bG _ o (lZ (hl i (Array.getElem?_eq_some_iff.1 aU).1).2 aU)
        have C:Cert P ax ops (fun _=>call) es r h eK ba (gN P aE 0 ops.toList) order aE ops.size ops.size false:=
         ⟨hlen,Nat.le_refl _,Nat.le_refl _,hl,j1,aq,aK,gU,NA,aiC,JC,Ry _ _,
           fun j o aa ae aI bu=>by
            obtain ⟨e,g1,g2⟩:=rE es ba _ hlen (Nat.le_refl _) (fun i o aU av=>by obtain ⟨e,cy,z2,_⟩:=gU i o aU av;exact ⟨e,cy,z2⟩) (fun h=>by omega) aF j o aa ae aI bu
            exact ⟨e,g1,fun s aR hm=>by obtain ⟨ab,g3⟩:=g2 s aR hm;exact ⟨_,ab,⟨cH,dh⟩,g3⟩⟩,
           fun h=>absurd h (Nat.lt_irrefl _),fun h=>absurd h (Nat.lt_irrefl _)⟩
        exact FR c1 bD cH dh k s C (fun _=>cK) (fun _ _ _ _ _ _ _ h=>absurd h (Nat.lt_irrefl _)) (fun h=>absurd h (Nat.lt_irrefl _))
    | cw es eK ba v ab=>
      rw [cz] at cK
      simp only at cK
      cases aF:(IW ops order aE es.length&&q.run call es ba) with
      | false=>rw [aF] at cK;exact cK.elim
      | true=>
        rw [aF] at cK
        simp only [cond_true] at cK
        simp only [Bool.and_eq_true] at aF
        obtain ⟨tx,aF⟩:=aF
        obtain ⟨aq,aK,bG,fM,di,e0,hM⟩:=Rz cz
        have aN:es.length<ops.size:=by
         have:=(List.getElem?_eq_some_iff.1 di).1
         rw [ov,nf] at this
         exact this
        obtain ⟨i0,tl,iz⟩:=j1 es.length aN
        have cn:ops[i0]? =some ops[i0]:=Array.getElem?_eq_getElem tl
        have oa:=(hl i0 tl).2
        rw [iz] at oa
        have abI:fM=ops[i0]:=by
         have:=lZ oa cn
         rw [di] at this
         cases this
         rfl
        subst abI
        unfold IW at tx
        rw [oa] at tx
        simp only at tx
        obtain ⟨m0,NM,_⟩:=oF tx i0 ops[i0] (by simp)
        have Og:∀k ok,ops[k]? =some ok→∃mk,(ef [] ops.toList)[k]? =some mk∧(es.length<posOf aE k→e_ mk i0=true)∧(fL ok=true→posOf aE k<es.length→e_ m0 k=true):=by
         intro k ok aD
         obtain ⟨mk,cy,z2⟩:=oF tx k ok (by simpa using aD)
         simp only [Nat.zero_add,Bool.and_eq_true] at z2
         refine ⟨mk,cy,fun aH=>?_,fun br ak=>?_⟩
         · have:=z2.1
           rw [show Nat.blt es.length (posOf aE k)=true from by rw [Nat.blt_eq];exact aH] at this
           exact this
         · have:=z2.2
           rw [br,show Nat.blt (posOf aE k) es.length=true from by rw [Nat.blt_eq];exact ak,NM] at this
           exact this
        have vA:dP P ops[i0]=true:=by
         obtain ⟨bz,bN⟩:=Pq (P:=P) e0
         unfold dP;rw [bz,bN];rfl
        have gU:∀i o,ops[i]? =some o→posOf aE i<es.length→∃e,es[posOf aE i]? =some e∧(ct P ax ops o).run call e.r e.h=.val e.v (b' es ba (posOf aE i+1))∧dS es eK (posOf aE i+1)=(eZ o.dst).run e.r e.v:=
         fun i o aU ak=>bG _ o ak (lZ (hl i (Array.getElem?_eq_some_iff.1 aU).1).2 aU)
        have C:Cert P ax ops (fun _=>call) es r h eK ba (gN P aE 0 ops.toList) order aE es.length ops.size false:=
         ⟨rfl,Nat.le_of_lt aN,Nat.le_of_lt aN,hl,j1,aq,aK,gU,NA,by rw [←iz];exact JC i0 _ cn vA,JC,Ry _ _,
           fun j o aa ae aI bu=>by
            obtain ⟨e,g1,g2⟩:=rE es ba _ rfl (Nat.le_of_lt aN) (fun i o aU av=>by obtain ⟨e,cy,z2,_⟩:=gU i o aU av;exact ⟨e,cy,z2⟩) (fun _=>⟨i0,_,cn,iz,vA⟩) aF j o aa ae aI bu
            exact ⟨e,g1,fun s aR hm=>by obtain ⟨ab,g3⟩:=g2 s aR hm;exact ⟨_,ab,⟨cH,dh⟩,g3⟩⟩,
           fun h=>absurd h (Nat.lt_irrefl _),fun _ _=>⟨i0,_,m0,cn,iz,e0,NM,fun k ok mk aD aH Hf=>by
            obtain ⟨mk',cy,z2,_⟩:=Og k ok aD
            rw [Hf] at cy;cases cy
            exact z2 aH,fun k ok aD br ak=>by
            obtain ⟨mk',cy,_,z3⟩:=Og k ok aD
            exact z3 br ak,v,ab,hM⟩⟩
        refine FR c1 bD cH dh k s C (fun h=>absurd h (by omega)) (fun ay bk ar x v1 aa g1 _ _ g3 g4 g5 g6=>?_) (fun h=>absurd h (Nat.lt_irrefl _))
        obtain ⟨i1,c_,cy,z2,z3⟩:=g3
        have:i1=i0:=C.ub (Array.getElem?_eq_some_iff.1 cy).1 tl (by rw [z2,iz])
        subst this
        rw [cn] at cy;cases cy
        rw [hM] at z3;cases z3
        exact cK ay bk ar x g1 g4 g5 g6
   cases ak:pS P ops.toList with
   | false=>
     rw [ak] at aj
     have none:∀(l:List Oper),pS P l=false→∀(j:Nat) (o:Oper),l[j]? =some o→er P o.op=false:=by
      intro l
      induction l with
      | nil=>intro _ j o h;simp at h
      | cons x l bg=>
        intro h j o aU
        simp only [pS,Bool.or_eq_false_iff] at h
        cases j with
        | zero=>simp only [List.getElem?_cons_zero,Option.some.injEq] at aU;subst aU;exact h.1
        | succ j=>exact bg h.2 j o (by simpa using aU)
     refine main _ (fun es nc N hlen hle gU N8 _ j o aU dI aF ye=>?_) aj
     have Gv:N=ops.size:=by
      rcases Nat.lt_or_ge N ops.size with aN | ix
      · obtain ⟨i0,fM,cy,z2,z3⟩:=N8 aN
        have:=none _ ak i0 fM (by simpa using cy)
        unfold dP at z3
        rw [this] at z3;cases z3
      · omega
     obtain ⟨e,b1,cg⟩:=gU j o aU ye
     refine ⟨e,b1,fun s aR _=>?_⟩
     have gT:s=ops.size:=by
      rcases r0 aR with h | ⟨B9,b6,aa,ae,aI⟩
      · simpa using h
      · have:=none _ ak B9 b6 aa
        unfold dP at ae
        rw [this] at ae
        cases ae
     have flat:∀d,d≤ops.size→b' es nc d=b' es nc 0:=by
      intro d
      induction d with
      | zero=>intro _;rfl
      | succ d bg=>
        intro aY
        obtain ⟨i,tm,mh⟩:=j1 d (by omega)
        have cn:ops[i]? =some ops[i]:=Array.getElem?_eq_getElem tm
        obtain ⟨Y4,bU,bQ⟩:=gU i ops[i] cn (by omega)
        rw [mh] at bU bQ
        have dn:er P ops[i].op=false:=none _ ak i _ (by simp)
        rw [(sT dn bQ).1,←bg (by omega)]
        simp [b',bU]
     have:e.h=b' es nc s:=by rw [gT,flat ops.size (Nat.le_refl _),←flat (posOf aE j) (by omega)];simp [b',b1]
     rw [←this]
     exact ⟨_,cg⟩
   | true=>
     rw [ak] at aj
     refine main _ (fun es nc N hlen hle gU N8 Ht j o aU dI aF ye=>?_) aj
     obtain ⟨e,b1,_⟩:=gU j o aU ye
     have:=Er Ht j o (by simpa using aU) dI aF e (by simpa using b1)
     exact ⟨e,b1,by simpa using this⟩
end
end Go.Proofs.YtkehcalakofigaaGreatDoor.aS
namespace Go.Proofs.YtkehcalakofigaaGreatDoor.aS
variable [Lay]
open Go Go.RowKit
def toExit:dd→Exit
 | .normal=>.normal
 | .exit id=>.exit id
 | .ret=>.ret
def Td (C:Ctx):Prop:=
 ∀f p args h v ab,C.I4 f=some p→p.run args h=.val v ab→(∃fn,C.P.funcs[f]? =some fn∧fn.body.isSome=true)∧∀(az:Fr) E w xs,a_ E args xs→a8 az E h w→
  Calls C.P f xs.toArray w fun e ar=>∃ay x,e=.returned x∧E.le ay∧Rel ay v x∧a8 az ay ab ar
def SI (C:Ctx):Prop:=
 ∀f p args h v ab,C.ext f=some p→p.run args h=.val v ab→∀(az:Fr) E w xs,a_ E args xs→a8 az E h w→
  ∃ay x ar,(callFunc f xs.toArray).run C.P w=.ok (.value x) ar∧E.le ay∧Rel ay v x∧a8 az ay ab ar
def nJ (C:Ctx):Prop:=Td C∧SI C
theorem o4 {P:Program} {rd:Option Nat} (m:Machine):m.fenced P (b4 rd):=fenced_wide P m
def Dt (rd:Option Nat) (P:Program) (c:Code) (Q:Exit→Act→World→Prop) (a:Act) (w:World):Prop:=
 match c with
 | .loop x=>∀(b:Frame) (k:List Item) (cs:List Frame),b.roundOf=rd→∃e bk ar,Q e bk ar∧ArrivesIn (Machine.fenced P (b4 rd)) P (lone (b.atR a (.code x::.inLoop x::k)) cs w) b k cs e bk ar
 | c=>c.wpIn (b4 rd) 0 P Q a w
theorem Dt.wp {rd:Option Nat} {P:Program} {c:Code} {Q:Exit→Act→World→Prop} {a:Act} {w:World} (h:Dt rd P c Q a w):c.wpIn (b4 rd) 0 P Q a w:=by
 cases c with
 | loop x=>
   intro b k cs kk _ _
   obtain ⟨e,bk,ar,q,r⟩:=h b k cs kk
   exact ⟨e,bk,ar,q,.of_steps (.one (o4 _) stepR_loop) r⟩
 | _=>exact h
def uO (az:Fr) (E:Env) (ax:Nat) (Q:Exit→Act→World→Prop):kA→Prop
 | .ok e r h=>∀ay bk ar,E.le ay→eP ay ax r bk→a8 az ay h ar→Q (toExit e) bk ar
 | .cw v r h=>∀ay bk ar x,E.le ay→eP ay ax r bk→Rel ay v x→a8 az ay h ar→Q (.panic (ow x)) bk ar
 | .fail=>False
theorem uO.up {az:Fr} {E ay:Env} (h:E.le ay) {ax:Nat} {Q:Exit→Act→World→Prop} {x:kA} (k:uO az E ax Q x):uO az ay ax Q x:=by
 cases x with
 | ok e r ba=>exact fun bV a w ae=>k bV a w (h.trans ae)
 | cw v r ba=>exact fun bV a w x ae=>k bV a w x (h.trans ae)
 | fail=>exact k
def Ka (P:Program) (ax:Nat) (c:Code) (run:bx→af→kA):Prop:=
 ∀(rd:Option Nat) (az:Fr) r h,(rd=none∨noMark c=true)→∀E a w,eP E ax r a→a8 az E h w→∀Q:Exit→Act→World→Prop,uO az E ax Q (run r h)→Dt rd P c Q a w
def q_ (P:Program) (ex:ha):Prop:=∀ax c,Ka P ax c (ex ax c)
def uf (tmps:Array Value):ResultVar→Sem Value
 | .tmp t=>pure (tmps.getD t undef)
 | .cell b t=>do loadVar t (←asAddr (tmps.getD b undef))
theorem Jf {P:Program} {az:Fr} {E:Env} {ax:Nat} {r:bx} {h:af} {a:Act} {w:World} (k:RegRel0 E ax r a) (s:a8 az E h w):∀{l:List ResultVar} {ad:List V},(jw P ax l).run r h=some ad→
 ∃xs,a_ E ad xs∧(l.mapM (uf a.tmps)).run P w=.ok xs w
 | [],ad,he=>by
   simp only [jw,Option.some.injEq] at he
   subst he
   exact ⟨[],rfl,rfl⟩
 | .tmp t::l,ad,he=>by
   simp only [jw] at he
   cases aw:(Nat.ble t top&&Nat.blt t ax) with
   | false=>rw [aw] at he;cases he
   | true=>
     rw [aw] at he
     simp only [cond_true] at he
     simp only [Bool.and_eq_true,Nat.ble_eq] at aw
     cases aJ:(jw P ax l).run r h with
     | none=>rw [aJ] at he;cases he
     | some us=>
       rw [aJ] at he
       simp only [Option.some.injEq] at he
       subst he
       obtain ⟨xs,aa,ae⟩:=Jf k s aJ
       refine ⟨_::xs,by simp only [a_];exact ⟨_,_,rfl,k.an t aw.1,aa⟩,?_⟩
       rw [List.mapM_cons,Sem.run_bind]
       simp only [uf,Sem.run_pure,Result.andThen_ok,Sem.run_bind,ae]
 | .cell b t::l,ad,he=>by
   simp only [jw] at he
   cases aw:(Nat.ble b top&&Nat.blt b ax) with
   | false=>rw [aw] at he;cases he
   | true=>
     rw [aw] at he
     simp only [cond_true] at he
     simp only [Bool.and_eq_true,Nat.ble_eq] at aw
     cases bs:(oq P t).run h (T.get .bad (aC b) r) with
     | none=>rw [bs] at he;cases he
     | some v=>
       rw [bs] at he
       simp only at he
       cases aJ:(jw P ax l).run r h with
       | none=>rw [aJ] at he;cases he
       | some us=>
         rw [aJ] at he
         simp only [Option.some.injEq] at he
         subst he
         obtain ⟨xs,aa,ae⟩:=Jf k s aJ
         obtain ⟨Y,_,cE,A,lH,eQ⟩:=Pb (P:=P) s (k.an b aw.1) bs
         refine ⟨Y::xs,by simp only [a_];exact ⟨_,_,rfl,cE,aa⟩,?_⟩
         rw [List.mapM_cons,Sem.run_bind]
         simp only [uf,lH,asAddr,Sem.run_bind,Sem.run_pure,Result.andThen_ok,eQ,ae]
theorem KT:∀(args:List V) (i:Nat) (t:bx) (j:Nat),i+args.length≤top+1→j≤top→
 T.get .bad (aC j) (lq i args t)=if i≤j∧j<i+args.length then (args[j-i]?).getD .bad else T.get .bad (aC j) t
 | [],i,t,j,_,_=>by
   have:¬(i≤j∧j<i):=by omega
   simp [lq,this]
 | v::ad,i,t,j,h,bH=>by
   simp only [List.length_cons] at h ⊢
   rw [lq,KT ad _ _ _ (by omega) bH]
   by_cases aa:i+1≤j∧j<i+1+ad.length
   · rw [if_pos aa,if_pos (by omega)]
     have:j-i=(j - (i+1))+1:=by omega
     rw [this,List.getElem?_cons_succ]
   · rw [if_neg aa,T.hd]
     by_cases ae:j=i
     · subst ae;rw [if_pos rfl,if_pos (by omega)];simp
     · rw [if_neg (fun e=>ae (g' e).symm),if_neg (by omega)]
theorem agu {E:Env} {ad:List V} {xs:List Value} (h:a_ E ad xs) (fn:Func) (a:Act) (P:Program) (w:World)
 (aJ:(fn.results.toList.mapM (uf a.tmps)).run P w=.ok xs w):∃x,(results fn a.tmps).run P w=.ok x w∧Rel E (oneOf ad) x:=by
 have mm:(fn.results.mapM (uf a.tmps)).run P w=.ok xs.toArray w:=by
  rw [Array.mapM_eq_mapM_toList,Sem.run_map,aJ]
  rfl
 have GH:results fn a.tmps=(do
  let ad ←fn.results.mapM (uf a.tmps)
  pure (if h:ad.size=1 then ad[0] else .tuple ad)):=by
  unfold results
  have:(fun x=>match x with
   | ResultVar.tmp t=>(pure (a.tmps.getD t undef):Sem Value)
   | ResultVar.cell b t=>do loadVar t (←asAddr (a.tmps.getD b undef)))=uf a.tmps:=by
   funext x
   cases x<;>rfl
  rw [←this]
  rfl
 have vQ:(results fn a.tmps).run P w=.ok (if h:xs.toArray.size=1 then xs.toArray[0] else .tuple xs.toArray) w:=by
  rw [GH,Sem.run_bind,mm]
  rfl
 refine ⟨_,vQ,?_⟩
 match ad,h with
 | [],h=>
   simp only [a_] at h
   subst h
   simp only [oneOf,Rel]
   exact ⟨#[],rfl,rfl⟩
 | [v],h=>
   simp only [a_] at h
   obtain ⟨y,cm,rfl,a1,rfl⟩:=h
   simpa [oneOf] using a1
 | v::u::ad,h=>
   have ak:=h.length
   have dn:¬xs.toArray.size=1:=by simp at ak ⊢;omega
   rw [dif_neg dn]
   simp only [oneOf,Rel]
   exact ⟨_,rfl,by simpa using h⟩
section
variable {C:Ctx}
theorem KS:∀(args:List V) (i:Nat) (t:bx),i+args.length≤top+1→T.get .bad ep (lq i args t)=T.get .bad ep t
 | [],_,_,_=>rfl
 | v::ad,i,t,h=>by
   simp only [List.length_cons] at h
   simp only [lq]
   rw [KS ad (i+1) _ (by omega),T.hd,if_neg (tZ (by omega))]
theorem Mq {E:Env} {ax:Nat} {args:List V} {xs:List Value} (ak:a_ E args xs) (kb:args.length≤ax) (gg:ax≤top):
 eP E ax (lq 0 args .e) {tmps:=xs.toArray++Array.replicate (ax-xs.toArray.size) undef,defers:=[]}:=by
 have hlen:=ak.length
 refine ⟨⟨by simp;omega,fun t aG=>?_⟩,?_⟩
 · rw [KT _ _ _ _ (by omega) aG]
   by_cases aN:t<args.length
   · rw [if_pos (by omega),Nat.sub_zero,List.getElem?_eq_getElem aN]
     obtain ⟨y,a1,cE⟩:=ak.get t args[t] (List.getElem?_eq_getElem aN)
     simp only [Option.getD_some]
     have:(xs.toArray++Array.replicate (ax-xs.toArray.size) undef).getD t undef=y:=by
      rw [Array.getD_eq_getD_getElem?,Array.getElem?_append_left (by simp;omega)]
      simp [a1]
     rw [this];exact cE
   · rw [if_neg (by omega)]
     simp [Rel]
 · rw [KS _ _ _ (by omega)]
   simp [j5]
def jH (E:Env) (u:Option V) (m:FrameMode):Prop:=
 match u with
 | none=>m=.returning
 | some v=>∃x,Rel E v x∧m=.panicking (ow x)
theorem jH.mono {E ay:Env} (h:E.le ay) {u:Option V} {m:FrameMode} (k:jH E u m):jH ay u m:=by
 cases u with
 | none=>exact k
 | some v=>obtain ⟨x,aa,ae⟩:=k;exact ⟨x,Rel.mono h _ _ aa,ae⟩
theorem jH.settle {E:Env} {u:Option V} {m:FrameMode} (k:jH E u m):settle m=m:=by
 cases u with
 | none=>simp only [jH] at k;subst k;rfl
 | some v=>obtain ⟨x,aa,rfl⟩:=k;rfl
theorem jH.run {E:Env} {u:Option V} {m:FrameMode} (k:jH E u m):m≠.run:=by
 cases u with
 | none=>simp only [jH] at k;subst k;simp
 | some v=>obtain ⟨x,aa,rfl⟩:=k;simp
def zY (P:Program) (jb:sz):Prop:=
 ∀f args u h fZ ab,jb f args u h=.go fZ ab→(∃fn,P.funcs[f]? =some fn∧fn.body.isSome=true)∧
  ∀(az:Fr) E w xs m,a_ E args xs→jH E u m→a8 az E h w→CallsDIn (b4 none) 0 P f xs.toArray m w fun e c' ar=>∃ay x,e=.returned x∧E.le ay∧jH ay fZ (settle c')∧a8 az ay ab ar
theorem a8.gone {az:Fr} {E:Env} {h:af} {w ar:World} (s:a8 az E h w) {b:aQ} {p:hS} (fK:(h.get b).own=true) (aj:E b=some p) (cS:az.w.heap.size≤p.a7)
 (aN:w.heap.size≤ar.heap.size) (lP:∀j,j≠p.a7→ar.heap[j]? =w.heap[j]?) (ng:ar.os=w.os) (aG:ar.tape=w.tape) (aU:ar.output=w.output):a8 az E (h.set b .dead) ar:=
 s.set fK aj cS aN lP ng aG aU (fun _ _ _ e=>by cases e) trivial
theorem Ie {P:Program} {jb:sz} (bD:ec P) (kd:zY P jb) {az:Fr} {fn:Func} {tmps:Array Value} {R:Ending→World→Prop}:∀(ad:List V) (ds:List Deferred) (E:Env) (u:Option V) (h:af) (w:World) (m:FrameMode) (fZ:Option V) (ab:af),
 lT jb ad u h=.go fZ ab→l6 E ad ds→jH E u m→a8 az E h w→(∀ay c' ar,E.le ay→jH ay fZ c'→a8 az ay ab ar→LeavesInM (b4 none) 0 P fn tmps R [] c' ar)→LeavesInM (b4 none) 0 P fn tmps R ds m w
 | [],ds,E,u,h,w,m,fZ,ab,he,aY,hu,s,cE=>by
   simp only [lT,ri.go.injEq] at he
   obtain ⟨rfl,rfl⟩:=he
   simp only [l6] at aY
   subst aY
   exact cE E m w (Env.le.refl E) hu s
 | v::ad,ds,E,u,h,w,m,fZ,ab,he,aY,hu,s,cE=>by
   obtain ⟨d,mc,rfl,td,te⟩:=aY
   cases v with
   | func f args=>
     simp only [lT] at he
     cases aw:jb f args u h with
     | fail=>rw [aw] at he;cases he
     | go uq aa=>
       rw [aw] at he
       simp only at he
       obtain ⟨aA,cap,aG,ak⟩:=td
       obtain ⟨⟨ZG,hg,ai⟩,cH⟩:=kd _ _ _ _ _ _ aw
       refine ⟨hu.run,.inr ⟨fun h=>by simp at h,_,cap,f,d.args++cap,aG,?_,fun _ _=>trivial,?_⟩⟩
       · rw [aG]
         simp only [invoke]
         exact si bD hg ai _ w
       · have e:d.args++cap=(d.args.toList++cap.toList).toArray:=by apply Array.ext';simp
         rw [e]
         refine CallsDIn.mono (cH az E w _ m ak hu s) fun e m1 bU aF=>?_
         obtain ⟨fv,x,rfl,al,aq,aK⟩:=aF
         exact Ie bD kd ad mc fv uq aa bU (settle m1) fZ ab he (te.mono al) aq aK fun bV m2 bQ b1 cg cZ=>cE bV m2 bQ (al.trans b1) cg cZ
   | ptr b off=>
     simp only [lT] at he
     cases aH:h.get b<;>rw [aH] at he<;>simp only at he<;>try (cases he;done)
     obtain ⟨p,aj,aa0⟩:=td
     have ai:=s.at aj
     rw [aH] at ai
     obtain ⟨p',gi,cS,ba⟩:=ai
     rw [aj] at gi;cases gi
     have kh:=(Array.getElem?_eq_some_iff.1 ba).1
     let bU:World:={w with heap:=w.heap.setIfInBounds p.a7 (.deferred none)}
     have ab9:(Instr.takeDeferred p.a7).run P w=.ok [] bU:=by
      have ee:(getObj p.a7).run P w=.ok (.deferred (some [])) w:=by simp only [getObj,Sem.run,ba]
      have qz:(setObj p.a7 (.deferred none)).run P w=.ok () bU:=by simp only [setObj,Sem.run,ba];rfl
      simp only [Instr.takeDeferred,Sem.run_bind,ee,Result.andThen_ok,qz,Sem.run_pure]
     have s1:a8 az E (h.set b .dead) bU:=s.gone (by rw [aH];rfl) aj cS (by simp [bU]) (fun j bH=>by simp only [bU,Array.getElem?_setIfInBounds];rw [if_neg (fun e=>bH e.symm)]) rfl rfl rfl
     refine ⟨hu.run,.inl ⟨p.a7,bU,by rw [aa0],ab9,?_⟩⟩
     exact Ie bD kd ad mc E u _ bU m fZ ab he te hu s1 cE
   | _=>simp [lT] at he
theorem Jk {P:Program} {az:Fr} {E:Env} {fn:Func} {r:bx} {h:af} {a:Act} {w:World} (k:RegRel0 E fn.ntmps r a) (s:a8 az E h w) {ad:List V} (bs:(jw P fn.ntmps fn.results.toList).run r h=some ad):
 ∃x,(results fn a.tmps).run P w=.ok x w∧Rel E (oneOf ad) x:=by
 obtain ⟨cm,b1,cg⟩:=Jf (P:=P) k s bs
 exact agu b1 fn a P w cg
section
variable {C:Ctx}
theorem X0 (ex:ha):f' C.P (p4 C ex):=by
 intro f args h v ab he
 trivial
def pO (az:Fr) (E:Env) (R:Ending→World→Prop):aZ→Prop
 | .val v ab=>∀ay x ar,E.le ay→Rel ay v x→a8 az ay ab ar→R (.returned x) ar
 | .cw v ab=>∀ay x ar,E.le ay→Rel ay v x→a8 az ay ab ar→R (.panicked (ow x)) ar
 | .fail=>False
theorem pO.up {az:Fr} {E ay:Env} (h:E.le ay) {R:Ending→World→Prop} {x:aZ} (k:pO az E R x):pO az ay R x:=by
 cases x with
 | val v ba=>exact fun bV a w ae=>k bV a w (h.trans ae)
 | cw v ba=>exact fun bV a w ae=>k bV a w (h.trans ae)
 | fail=>exact k
theorem F9 (bD:ec C.P) {jb:sz} (kd:zY C.P jb) {az:Fr} {fn:Func} {E:Env} {r:bx} {u:Option V} {h:af} {a:Act} {w:World} {m:FrameMode} {R:Ending→World→Prop}
 (k:eP E fn.ntmps r a) (hu:jH E u m) (s:a8 az E h w)
 (aj:pO az E R (finish (jw C.P fn.ntmps fn.results.toList) r (lT jb (T.get .bad ep r).list u h))):LeavesInM (b4 none) 0 C.P fn a.tmps R a.defers m w:=by
 cases ak:lT jb (T.get .bad ep r).list u h with
 | fail=>rw [ak] at aj;exact aj.elim
 | go fZ ab=>
   rw [ak] at aj
   refine Ie bD kd _ a.defers E u h w m fZ ab ak k.defers.list hu s fun ay c' ar al aq aK=>?_
   cases fZ with
   | some v=>
     obtain ⟨x,au,rfl⟩:=aq
     exact aj ay x ar al au aK
   | none=>
     simp only [jH] at aq
     subst aq
     simp only [finish] at aj
     cases bs:(jw C.P fn.ntmps fn.results.toList).run r ab with
     | none=>rw [bs] at aj;exact aj.elim
     | some ad=>
       rw [bs] at aj
       obtain ⟨x,b1,cg⟩:=Jk (P:=C.P) (k.mono al).toRegRel0 aK bs
       exact ⟨x,b1,aj ay x ar al cg aK⟩
theorem L2 {res:uQ} {u fZ:Option V} {x:kA} {ab:af} (he:A4 res u x=.go fZ ab):∃e r ad,x=.ok e r ab∧(e=.normal∨e=.ret)∧T.get .bad ep r=.bad∧res.run r ab=some ad∧fZ=u:=by
 unfold A4 at he
 cases x with
 | fail=>cases he
 | cw _ _ _=>cases he
 | ok e r h=>
   have main:(bif (T.get .bad ep r).H4 then (match res.run r h with
    | some _=>ri.go u h
    | none=>.fail) else .fail)=.go fZ ab→(e=.normal∨e=.ret)→∃db bt ad,kA.ok e r h=.ok db bt ab∧(db=.normal∨db=.ret)∧T.get .bad ep bt=.bad∧res.run bt ab=some ad∧fZ=u:=by
    intro he gS
    cases ai:(T.get .bad ep r).H4 with
    | false=>rw [ai] at he;cases he
    | true=>
      rw [ai] at he
      simp only [cond_true] at he
      have aaS:T.get .bad ep r=.bad:=by
       cases aH:T.get .bad ep r<;>rw [aH] at ai<;>first
        | rfl
        | cases ai
      cases bs:res.run r h with
      | none=>rw [bs] at he;cases he
      | some ad=>
        rw [bs] at he
        simp only [ri.go.injEq] at he
        obtain ⟨rfl,rfl⟩:=he
        exact ⟨e,r,ad,rfl,gS,aaS,bs,rfl⟩
   cases e with
   | normal=>exact main he (.inl rfl)
   | ret=>exact main he (.inr rfl)
   | exit id=>cases he
theorem ahx {c:Code} {s:Ed} (h:C7 c=some s):∃id c_ cW args types,c=.seq (.region id #[c_,cW] false) s.rest∧c_.dst=some s.d∧c_.op=.call ⟨.builtin .recover,args,types⟩∧c_.guard=none∧cW.dst=some s.e∧cW.op=.assign s.x∧cW.guard=none:=by
 unfold C7 at h
 split at h
 case h_2=>cases h
 rename_i id ops rest
 split at h
 case h_2=>cases h
 rename_i c_ cW ak
 split at h
 case h_2=>cases h
 rename_i d args types e x aa ae aI bu cf fp
 cases h
 have abK:ops=#[c_,cW]:=by apply Array.ext';simp [ak]
 subst abK
 exact ⟨id,c_,cW,_,_,rfl,aa,ae,aI,bu,cf,fp⟩
theorem YQ (c1:C.P.follows .mixedOrders=true) (bD:ec C.P) {ex:ha} (hex:q_ C.P ex):zY C.P (A3 C.P ex):=by
 intro f args u h fZ ab he
 unfold A3 at he
 cases aA:C.P.funcs[f]? with
 | none=>rw [aA] at he;cases he
 | some fn=>
   rw [aA] at he
   simp only at he
   cases ai:fn.body with
   | none=>rw [ai] at he;cases he
   | some c=>
     rw [ai] at he
     simp only at he
     refine ⟨⟨fn,rfl,by rw [ai];rfl⟩,fun az E w xs m ak hu s=>?_⟩
     cases gg:Nat.ble fn.ntmps top with
     | false=>rw [gg] at he;cases he
     | true=>
       rw [gg] at he
       simp only [cond_true] at he
       rw [Nat.ble_eq] at gg
       unfold L3 at he
       cases kb:Nat.ble args.length fn.ntmps with
       | false=>rw [kb] at he;cases he
       | true=>
         rw [kb] at he
         simp only [cond_true] at he
         rw [Nat.ble_eq] at kb
         have k:=Mq ak kb gg
         cases aJ:C7 c with
         | none=>
           rw [aJ] at he
           simp only at he
           obtain ⟨e,r,ad,au,gS,rG,bs,rfl⟩:=L2 he
           refine CallsDIn.mono (callsDIn_of_wp (R:=fun e ar=>∃ay x,e=.returned x∧E.le ay∧a8 az ay ab ar) aA ai trivial ?_) fun db c' ar aF=>?_
           · refine (hex fn.ntmps c none az _ h (.inl rfl) E _ w k s _ ?_).wp
             rw [au]
             intro ay bk ar al aq aK
             have aY:bk.defers=[]:=by have:=aq.defers;rw [rG] at this;exact this
             obtain ⟨x,b1,cg⟩:=Jk (P:=C.P) aq.toRegRel0 aK bs
             rcases gS with rfl | rfl<;>exact ⟨aY,x,b1,ay,x,rfl,al,aK⟩
           · obtain ⟨rfl,ay,x,rfl,al,aK⟩:=aF
             exact ⟨ay,x,rfl,al,by rw [hu.settle];exact hu.mono al,aK⟩
         | some cQ=>
           rw [aJ] at he
           simp only at he
           cases gv:(eI fn.ntmps (some cQ.d)&&eI fn.ntmps (some cQ.e)) with
           | false=>rw [gv] at he;cases he
           | true=>
             rw [gv] at he
             simp only [cond_true] at he
             simp only [Bool.and_eq_true] at gv
             obtain ⟨e,r,ad,au,gS,rG,bs,rfl⟩:=L2 he
             obtain ⟨id,c_,cW,zu,rt,rfl,g1,g2,g3,g4,g5,g6⟩:=ahx aJ
             refine callsDIn_of_wpSIn aA ai trivial fun sS cs GG=>wpSIn_seq (wpSIn_region ?_)
             obtain ⟨X,c4,nN,fU,c',lN,ab3⟩:∃X,Rel E (u.getD .nilIface) X∧∃nN,(match recoverD (sS::cs) with
              | some (v,YG)=>v=X∧YG=nN
              | none=>X=.nilIface∧nN=sS::cs)∧∃c',nN={sS with mode:=c'}::cs∧settle c'=.returning:=by
              cases u with
              | none=>
                simp only [jH] at hu
                subst hu
                refine ⟨.nilIface,rfl,sS::cs,?_,.returning,?_,rfl⟩
                · simp only [recoverD,GG];exact ⟨trivial,trivial⟩
                · rw [←GG]
              | some v=>
                obtain ⟨x,au,rfl⟩:=hu
                refine ⟨x,au,{sS with mode:=.panicking [{v:=x,recovered:=true}]}::cs,?_,.panicking [{v:=x,recovered:=true}],rfl,rfl⟩
                simp only [recoverD,GG];exact ⟨trivial,trivial⟩
             have ck:=k.put gv.1 c4
             have cJ:=ck.put gv.2 (dv ck.toRegRel0 cQ.x)
             rw [←g1] at cJ
             rw [←g4] at cJ
             have vR:=(hex fn.ntmps cQ.rest none az _ h (.inl rfl) E _ w cJ s (fun db bk ar=>bodyPostS C.P fn sS cs (fun e c' ar=>∃ay x,e=.returned x∧E.le ay∧jH ay none (settle c')∧a8 az ay ab ar) db bk nN ar) (by
              have:QM cQ u (lq 0 args .e)=(eZ cW.dst).run ((eZ c_.dst).run (lq 0 args .e) (u.getD .nilIface)) ((bO cQ.x).run ((eZ c_.dst).run (lq 0 args .e) (u.getD .nilIface))):=by rw [g1,g4];rfl
              rw [←this,au]
              intro ay bk ar al aq aK
              have aY:bk.defers=[]:=by have:=aq.defers;rw [rG] at this;exact this
              obtain ⟨x,b1,cg⟩:=Jk (P:=C.P) aq.toRegRel0 aK bs
              rcases gS with rfl | rfl<;>exact ⟨aY,c',lN,x,b1,ay,x,rfl,al,ab3,aK⟩)).wp
             have Od:=wpSIn_of_wpIn (F:=b4 none) rfl vR
             have oe:∀y,Region.wanted c_ y=true:=fun y=>by simp [Region.wanted,g3]
             have rM:∀y,Region.wanted cW y=true:=fun y=>by simp [Region.wanted,g6]
             have ab0:∀(ρ:Operand→Value),(execOp ρ c_).run C.P w=.ok .recover w:=fun ρ=>by
              obtain ⟨dst,op,type,pos,after,guard⟩:=c_
              simp only at g2
              subst g2
              rfl
             have yy:∀(ρ:Operand→Value),(execOp ρ cW).run C.P w=.ok (.value (ρ cQ.x)) w:=fun ρ=>by
              obtain ⟨dst,op,type,pos,after,guard⟩:=cW
              simp only at g5
              subst g5
              rfl
             have b7:(#[c_,cW]:Array Oper).size=2:=rfl
             rw [b7]
             simp only [List.range_succ,List.range_zero,List.nil_append,List.cons_append,wpOpsSIn]
             have cT:(#[c_,cW]:Array Oper)[0]? =some c_:=rfl
             have aB:(#[c_,cW]:Array Oper)[1]? =some cW:=rfl
             rw [cT]
             simp only [oe,if_true,ab0]
             refine ⟨fun _ _=>trivial,?_⟩
             cases N3:recoverD (sS::cs) with
             | none=>
               rw [N3] at fU
               obtain ⟨aaJ,nY⟩:=fU
               subst aaJ nY
               simp only [aB,rM,if_true,yy]
               exact ⟨fun _ _=>trivial,Od⟩
             | some JT=>
               obtain ⟨v,aj_⟩:=JT
               rw [N3] at fU
               obtain ⟨rfl,rfl⟩:=fU
               simp only [aB,rM,if_true,yy]
               exact ⟨fun _ _=>trivial,Od⟩
end
end
end Go.Proofs.YtkehcalakofigaaGreatDoor.aS
namespace Go.Proofs.YtkehcalakofigaaGreatDoor.aS
variable [Lay]
open Go Go.RowKit
theorem Rw:∀(xs:List V) (x:V),Dm (xs++[x])=some (xs,x)
 | [],x=>rfl
 | [y],x=>rfl
 | y::z::xs,x=>by
   have:=Rw (z::xs) x
   simp only [List.cons_append] at this ⊢
   simp only [Dm,this]
theorem RegRel0.putAt {E:Env} {ax:Nat} {r:bx} {t:Array Value} {ds:List Deferred} (k:RegRel0 E ax r ⟨t,ds⟩) {d:Nat} (aY:d<ax) (aG:d≤top) {v:V} {x:Value} (bs:Rel E v x):
 RegRel0 E ax (T.put .bad v (aC d) r) ⟨t.setIfInBounds d x,ds⟩:=by
 refine ⟨by simp only [Array.size_setIfInBounds];exact k.size,fun j bH=>?_⟩
 rw [T.hd]
 have b7:=k.size
 simp only at b7
 by_cases h:d=j
 · subst h
   rw [if_pos rfl]
   simp [Array.getD_eq_getD_getElem?,b7,aY,bs]
 · rw [if_neg (fun e=>h (g' e))]
   have:=k.an j bH
   simpa [Array.getD_eq_getD_getElem?,Array.getElem?_setIfInBounds,h] using this
theorem Qz {E:Env} {ax:Nat} {ds:List Deferred}:∀(bd:List Nat) (ad:List V) (xs:List Value) (r:bx) (t:Array Value),nA ax bd=true→a_ E ad xs→RegRel0 E ax r ⟨t,ds⟩→
 RegRel0 E ax (qO bd ad r) ⟨(bd.zip xs).foldl (fun t (p:Nat × Value)=>t.setIfInBounds p.1 p.2) t,ds⟩
 | [],ad,xs,r,t,_,_,k=>by cases ad<;>exact k
 | p::bd,[],xs,r,t,_,ak,k=>by simp only [a_] at ak;subst ak;exact k
 | p::bd,v::ad,xs,r,t,aj,ak,k=>by
   obtain ⟨y,cm,rfl,a1,ak⟩:=ak
   simp only [nA,List.all_cons,Bool.and_eq_true,Nat.blt_eq,Nat.ble_eq] at aj
   simp only [qO,List.zip_cons_cons,List.foldl_cons]
   exact Qz bd ad cm _ _ aj.2 ak (k.putAt aj.1.1 aj.1.2 a1)
theorem QA {E:Env} {ax:Nat} {ds:List Deferred} {bd:Array Nat} {ad:List V} {xs:List Value} {r:bx} {t:Array Value} (aj:nA ax bd.toList=true) (ak:a_ E ad xs) (k:RegRel0 E ax r ⟨t,ds⟩):
 RegRel0 E ax (qO bd.toList ad r) ⟨(bd.zip xs.toArray).foldl (fun t (p:Nat × Value)=>t.setIfInBounds p.1 p.2) t,ds⟩:=by
 rw [←Array.foldl_toList,Array.toList_zip]
 exact Qz bd.toList ad xs r t aj ak k
theorem RegRel0.Ud {E:Env} {ax:Nat} {r:bx} {a:Act} (k:RegRel0 E ax r a) (v:V):RegRel0 E ax (T.put .bad v ep r) a:=
 ⟨k.size,fun t aG=>by rw [T.hd,if_neg (fun e=>tZ aG e.symm)];exact k.an t aG⟩
section
variable {C:Ctx}
theorem ZH (bD:ec C.P) (c1:C.P.follows .mixedOrders=true) {ex:ha} (hex:q_ C.P ex) {f:FuncId} {args:List V} {h:af} {az:Fr} {E:Env} {w:World} {xs:List Value} (ak:a_ E args xs) (s:a8 az E h w) {R:Ending→World→Prop}
 (aj:pO az E R ((Gd C.P f).run ex args h)):(∃fn,C.P.funcs[f]? =some fn∧fn.body.isSome=true)∧Calls C.P f xs.toArray w R:=by
 unfold Gd at aj
 cases aA:C.P.funcs[f]? with
 | none=>rw [aA] at aj;exact aj.elim
 | some fn=>
   rw [aA] at aj
   simp only at aj
   cases ai:fn.body with
   | none=>rw [ai] at aj;exact aj.elim
   | some c=>
     rw [ai] at aj
     simp only at aj
     refine ⟨⟨fn,rfl,by rw [ai];rfl⟩,?_⟩
     cases gg:Nat.ble fn.ntmps top with
     | false=>rw [gg] at aj;exact aj.elim
     | true=>
       rw [gg] at aj
       simp only [cond_true] at aj
       rw [Nat.ble_eq] at gg
       unfold MN at aj
       cases kb:Nat.ble args.length fn.ntmps with
       | false=>rw [kb] at aj;exact aj.elim
       | true=>
         rw [kb] at aj
         simp only [cond_true] at aj
         rw [Nat.ble_eq] at kb
         have k:=Mq ak kb gg
         have kd:=YQ (C:=C) c1 bD hex
         refine rr.1 (callsIn_of_wp_marks (F:=b4 none) (n:=0) aA ai trivial ?_)
         refine (hex fn.ntmps c none az _ h (.inl rfl) E _ w k s _ ?_).wp
         cases aJ:ex fn.ntmps c (lq 0 args .e) h with
         | fail=>rw [aJ] at aj;exact aj
         | cw v r aa=>
           rw [aJ] at aj
           intro ay bk ar x al aq aK bG
           exact F9 (u:=some v) bD kd aq ⟨x,aK,rfl⟩ bG (pO.up al aj)
         | ok e r aa=>
           rw [aJ] at aj
           intro ay bk ar al aq aK
           have main:pO az E R (finish (jw C.P fn.ntmps fn.results.toList) r (lT (A3 C.P ex) (T.get .bad ep r).list none aa))→LeavesInM (b4 none) 0 C.P fn bk.tmps R bk.defers .returning ar:=by
            intro aj
            exact F9 (u:=none) bD kd aq rfl aK (pO.up al aj)
           cases e with
           | normal=>exact main aj
           | ret=>exact main aj
           | exit id=>exact aj.elim
theorem Bm (bD:ec C.P) (c1:C.P.follows .mixedOrders=true) (fT:nJ C) {ex:ha} (hex:q_ C.P ex) {f:FuncId} {args:List V} {h:af} {az:Fr} {E:Env} {w:World} {xs:List Value} (ak:a_ E args xs) (s:a8 az E h w) {R:Ending→World→Prop}
 (aj:pO az E R ((vk C f).run ex args h)):(∃fn,C.P.funcs[f]? =some fn∧fn.body.isSome=true)∧Calls C.P f xs.toArray w R:=by
 unfold vk at aj
 cases aF:C.I4 f with
 | none=>rw [aF] at aj;exact ZH bD c1 hex ak s aj
 | some p=>
   rw [aF] at aj
   simp only at aj
   cases aJ:p.run args h with
   | fail=>rw [aJ] at aj;exact aj.elim
   | cw _ _=>rw [aJ] at aj;exact aj.elim
   | val v ab=>
     rw [aJ] at aj
     obtain ⟨aa,ae⟩:=fT.1 f p args h v ab aF aJ
     refine ⟨aa,(ae az E w xs ak s).mono fun e ar aF=>?_⟩
     obtain ⟨ay,x,rfl,al,aq,aK⟩:=aF
     exact aj ay x ar al aq aK
theorem a8.loop {P:Program} {az:Fr} {E:Env} {h:af} {w:World} (s:a8 az E h w) {b:aQ} {l dL:mP} {p:hS} {o b6:Loop} (aH:h.get b=.dk l) (aj:E b=some p) (cS:az.w.heap.size≤p.a7) (ba:w.heap[p.a7]? =some (.loop o)) (aJ:sD E dL b6):
 (setObj p.a7 (.loop b6)).run P w=.ok () {w with heap:=w.heap.setIfInBounds p.a7 (.loop b6)}∧a8 az E (h.set b (.dk dL)) {w with heap:=w.heap.setIfInBounds p.a7 (.loop b6)}:=by
 have kh:=(Array.getElem?_eq_some_iff.1 ba).1
 refine ⟨by simp only [setObj,Sem.run,ba],s.set (p:=p) (by rw [aH];rfl) aj cS (by simp) (fun j bH=>?_) rfl rfl rfl (fun _ _ _ e=>by cases e) ?_⟩
 · simp only [Array.getElem?_setIfInBounds]
   rw [if_neg (fun e=>bH e.symm)]
 · exact ⟨p,b6,aj,cS,by simp [kh],aJ⟩
theorem run_getLoop {P:Program} {r:Nat} {w:World} {o:Loop} (ba:w.heap[r]? =some (.loop o)):(Instr.getLoop r).run P w=.ok o w:=by
 have:(getObj r).run P w=.ok (.loop o) w:=by simp only [getObj,Sem.run,ba]
 simp only [Instr.getLoop,Sem.run_bind,this,Result.andThen_ok,Sem.run_pure]
theorem QY {az:Fr} {E:Env} {h ab:af} {w:World} {b:aQ} {p:hS} {e:dd} {v:V} {P:Program} {R:Ending→World→Prop} {a:Act} (s:a8 az E h w) (aj:E b=some p) (he:ug b e h=.val v ab)
 (cE:∀x ar,Rel E v x→a8 az E ab ar→R (.returned x) ar):roundPost P p.a7 R (toExit e) a w:=by
 unfold ug at he
 have ai:=s.at aj
 cases aH:h.get b<;>rw [aH] at he ai<;>simp only at he<;>try (cases he;done)
 rename_i l
 obtain ⟨p',o,gi,cS,ba,aJ⟩:=ai
 rw [aj] at gi;cases gi
 have qk:=run_getLoop (P:=P) ba
 obtain ⟨bp,bT,bX,ew,cu,ek,ft,d'⟩:=aJ
 cases e with
 | normal=>
   simp only [aZ.val.injEq] at he
   obtain ⟨rfl,rfl⟩:=he
   obtain ⟨aa,ae⟩:=s.loop (P:=P) (dL:=⟨0,none,l.d,l.ax,l.r,l.bd,l.assign,l.body⟩) (b6:={o with state:=.ready,pending:=none}) aH aj cS ba ⟨rfl,rfl,bX,ew,cu,ek,ft,d'⟩
   refine ⟨.bool true,_,?_,cE _ _ rfl ae⟩
   simp only [Instr.endRound,Sem.run_bind,qk,Result.andThen_ok,Option.isNone_none,if_true,aa,Sem.run_pure]
 | ret=>
   simp only [aZ.val.injEq] at he
   obtain ⟨rfl,rfl⟩:=he
   obtain ⟨aa,ae⟩:=s.loop (P:=P) (dL:=⟨2,some .ret,l.d,l.ax,l.r,l.bd,l.assign,l.body⟩) (b6:={o with state:=.done,pending:=some .ret}) aH aj cS ba ⟨rfl,rfl,bX,ew,cu,ek,ft,d'⟩
   refine ⟨.bool false,_,?_,cE _ _ rfl ae⟩
   simp only [Instr.endRound,Sem.run_bind,qk,Result.andThen_ok,Option.isNone_some,Bool.false_eq_true,if_false,aa,Sem.run_pure]
 | exit id=>
   simp only [aZ.val.injEq] at he
   obtain ⟨rfl,rfl⟩:=he
   obtain ⟨aa,ae⟩:=s.loop (P:=P) (dL:=⟨2,some (.exit id),l.d,l.ax,l.r,l.bd,l.assign,l.body⟩) (b6:={o with state:=.done,pending:=some (.exit id)}) aH aj cS ba ⟨rfl,rfl,bX,ew,cu,ek,ft,d'⟩
   refine ⟨.bool false,_,?_,cE _ _ rfl ae⟩
   simp only [Instr.endRound,Sem.run_bind,qk,Result.andThen_ok,Option.isNone_some,Bool.false_eq_true,if_false,aa,Sem.run_pure]
theorem ahO {P:Program} {ex:ha} (hex:q_ P ex) {az:Fr} {E:Env} {h ab:af} {w:World} {args:List V} {xs:List Value} {b:aQ} {p:hS} {v:V} (he:zy ex args b h=.val v ab) (ak:a_ E args xs) (s:a8 az E h w) (aj:E b=some p):
 ∃f tmps assign body,(Instr.yield p.a7 xs.toArray).run P w=.ok (.round p.a7 f tmps assign body) w∧
  RoundIn (b4 none) 0 P p.a7 f tmps assign body w fun e ar=>∃ay x,e=.returned x∧E.le ay∧Rel ay v x∧a8 az ay ab ar:=by
 unfold zy at he
 have ai:=s.at aj
 cases aH:h.get b<;>rw [aH] at he ai<;>simp only at he<;>try (cases he;done)
 rename_i l
 obtain ⟨p',o,gi,cS,ba,aJ⟩:=ai
 rw [aj] at gi;cases gi
 obtain ⟨bp,bT,bX,ew,cu,ek,ft,d'⟩:=aJ
 obtain ⟨aw,he⟩:=jK he
 simp only [Bool.and_eq_true,Nat.beq_eq] at aw
 obtain ⟨bz,bN,c3,gb⟩:=aw
 have hlen:=ak.length
 have BU:o.params.size=xs.length:=by rw [←Array.length_toList,bX,hlen,bz]
 refine ⟨o.fn,(o.params.zip xs.toArray).foldl (fun tmps (t,a)=>tmps.setIfInBounds t a) o.tmps,o.assign,o.body,?_,?_⟩
 · simp only [Instr.yield,Sem.run_bind,run_getLoop ba,Result.andThen_ok]
   rw [if_neg (by simp [BU])]
   rfl
 · rw [ew,cu]
   refine roundIn_of_wpIn (F:=b4 none) trivial ?_
   have pj:RegRel0 E l.ax l.r ⟨o.tmps,[]⟩:=⟨ek,ft⟩
   rw [←bX] at bN he
   have ck:=(QA bN ak pj).Ud .bad
   have k:eP E l.ax (T.put .bad .bad ep (qO o.params.toList args l.r)) ⟨(o.params.zip xs.toArray).foldl (fun t (p:Nat × Value)=>t.setIfInBounds p.1 p.2) o.tmps,[]⟩:=⟨ck,by rw [T.hd,if_pos rfl];simp [j5]⟩
   have aco:=hex l.ax l.assign (some p.a7) az _ h (.inr c3) E _ w k s (Exit.then (fun pX q7=>∃zK,(Instr.beginRound p.a7).run P q7=.ok () zK∧
    l.body.wpIn (b4 (some p.a7)) 0 P (roundPost P p.a7 fun e ar=>∃ay x,e=.returned x∧E.le ay∧Rel ay v x∧a8 az ay ab ar) pX zK) (fun _ _ _=>False))
   refine (aco ?_).wp
   cases au:ex l.ax l.assign (T.put .bad .bad ep (qO o.params.toList args l.r)) h with
   | fail=>rw [au] at he;cases he
   | cw _ _ _=>rw [au] at he;cases he
   | ok e ahl aa=>
     rw [au] at he
     cases e<;>simp only at he<;>try (cases he;done)
     intro fv bM bU al aq aK
     unfold Da at he
     have hH:=al _ _ aj
     have jg:=aK.at hH
     cases NC:aa.get b<;>rw [NC] at he jg<;>simp only at he<;>try (cases he;done)
     rename_i fC
     obtain ⟨b1,c_,yq,o6,o9,qw⟩:=jg
     rw [hH] at yq;cases yq
     obtain ⟨cz,he⟩:=jK he
     rw [Nat.beq_eq] at cz
     obtain ⟨t1,t2,t3,t4,t5,t6,t7,t8⟩:=qw
     obtain ⟨g1,g2⟩:=aK.loop (P:=P) (dL:=⟨1,fC.ed,fC.d,fC.ax,fC.r,fC.bd,fC.assign,fC.body⟩) (b6:={c_ with state:=.busy}) NC hH o6 o9 ⟨rfl,t2,t3,t4,t5,t6,t7,t8⟩
     refine ⟨{bU with heap:=bU.heap.setIfInBounds p.a7 (.loop {c_ with state:=.busy})},?_,?_⟩
     · have yw:c_.state=.ready:=by rw [t1,cz];rfl
       simp only [Instr.beginRound,Sem.run_bind,run_getLoop o9,Result.andThen_ok,g1,yw,Sem.run_pure]
     · refine (hex l.ax l.body (some p.a7) az _ _ (.inr gb) fv _ _ aq g2 _ ?_).wp
       cases v':ex l.ax l.body ahl (aa.set b (.dk ⟨1,fC.ed,fC.d,fC.ax,fC.r,fC.bd,fC.assign,fC.body⟩)) with
       | fail=>rw [v'] at he;cases he
       | cw _ _ _=>rw [v'] at he;cases he
       | ok aO zt ae=>
         rw [v'] at he
         simp only at he
         intro bV a2 bQ cy z2 z3
         exact QY z3 (cy _ _ hH) he fun x ar d_ gC=>⟨bV,x,rfl,al.trans cy,d_,gC⟩
theorem X1 (c1:C.P.follows .mixedOrders=true) (bD:ec C.P) (fT:nJ C) {ex:ha} (hex:q_ C.P ex):fP C.P (p4 C ex) where
 fn:=by
  intro az f args h v ab aA he E w xs ak s
  unfold p4 at he
  rw [gE,if_neg aA] at he
  cases au:C.ext f with
  | some p=>
    rw [au] at he
    simp only at he
    cases aJ:p.run args h with
    | fail=>rw [aJ] at he;cases he
    | cw _ _=>rw [aJ] at he;cases he
    | val v1 aa=>
      rw [aJ] at he
      simp only [aZ.IE,aZ.val.injEq] at he
      obtain ⟨rfl,rfl⟩:=he
      exact .inr (fT.2 f p args h _ _ au aJ az E w xs ak s)
  | none=>
  rw [au] at he
  simp only at he
  exact .inl (Bm bD c1 fT hex ak s (by rw [he];exact fun ay x ar al aq aK=>⟨ay,x,rfl,al,aq,aK⟩))
 cw:=by
  intro az f args h v ab aA he E w xs ak s
  unfold p4 at he
  rw [gE,if_neg aA] at he
  cases au:C.ext f with
  | some p=>
    rw [au] at he
    simp only at he
    cases aJ:p.run args h<;>rw [aJ] at he<;>cases he
  | none=>
  rw [au] at he
  simp only at he
  exact Bm bD c1 fT hex ak s (by rw [he];exact fun ay x ar al aq aK=>⟨ay,x,rfl,al,aq,aK⟩)
 Sb:=by
  intro az args b h v ab he E w xs p ak s aj
  unfold p4 at he
  rw [gE,if_pos rfl] at he
  unfold Jq at he
  rw [Rw] at he
  exact ahO hex he ak s aj
 Sc:=by
  intro args h v ab he
  unfold p4 at he
  rw [gE,if_pos rfl] at he
  have aB:∀b e h,ug b e h≠.cw v ab:=by
   intro b e h he
   unfold ug at he
   split at he
   · cases e<;>cases he
   · cases he
  have aO:∀ax c b r h,Da ex ax c b r h≠.cw v ab:=by
   intro ax c b r h he
   unfold Da at he
   split at he
   case h_2=>cases he
   rename_i l ak
   cases aw:Nat.beq l.st 0 with
   | false=>rw [aw] at he;cases he
   | true=>
     rw [aw] at he
     simp only [cond_true] at he
     split at he
     · exact aB _ _ _ he
     · cases he
  have cc:∀xs b h,zy ex xs b h≠.cw v ab:=by
   intro xs b h he
   unfold zy at he
   split at he
   case h_2=>cases he
   rename_i l ak
   cases aw:(Nat.beq xs.length l.bd.length&&(nA l.ax l.bd&&(noMark l.assign&&noMark l.body))) with
   | false=>rw [aw] at he;cases he
   | true=>
     rw [aw] at he
     simp only [cond_true] at he
     split at he
     case h_2=>cases he
     rename_i e r aa _
     cases e<;>simp only at he<;>try (cases he;done)
     exact aO _ _ _ _ _ he
  unfold Jq at he
  split at he
  case h_2=>cases he
  split at he
  case h_2=>cases he
  exact cc _ _ _ he
end
end Go.Proofs.YtkehcalakofigaaGreatDoor.aS
namespace Go.Proofs.YtkehcalakofigaaGreatDoor.aS
variable [Lay]
open Go Go.RowKit
section
variable {C:Ctx}
theorem Zl {P:Program} {e:dd} {Q:Exit→Act→World→Prop} {a:Act} {w:World} (h:Q (toExit e) a w):(F8 e).wpIn (b4 none) 0 P Q a w:=by
 cases e with
 | normal=>exact wpIn_skip h
 | exit id=>exact wpIn_exit h
 | ret=>exact wpIn_ret h
theorem ahu (c1:C.P.follows .mixedOrders=true) (bD:ec C.P) (fT:nJ C) {ex:ha} (hex:q_ C.P ex) {f:Operand} {bd:Array Tmp} {assign body:Code} {ax:Nat} {az:Fr} {E:Env} {r:bx} {h:af} {a:Act} {w:World} {Q:Exit→Act→World→Prop}
 (k:eP E ax r a) (s:a8 az E h w) (aj:uO az E ax Q (Jb (fun g args h=>(vk C g).run ex args h) (bO f) bd.toList ax assign body r h)):(Code.rangeFunc f bd assign body).wpIn (b4 none) 0 C.P Q a w:=by
 unfold Jb at aj
 have aA:=dv k.toRegRel0 f
 generalize (bO f).run r=uu at aj aA
 cases uu<;>simp only at aj<;>try (exact aj.elim)
 rename_i g cs
 rw [gE] at aj
 by_cases aH:g=c7
 · rw [if_pos aH] at aj;exact aj.elim
 · rw [if_neg aH] at aj
   simp only [Rel] at aA
   rcases aA with ⟨_,ei,c4,ak⟩ | ⟨GW,_⟩
   case inr=>exact absurd GW aH
   refine wpIn_rangeFunc fun fn _=>?_
   have f0:=s.fresh h.next (Nat.le_refl _)
   obtain ⟨fv,s9⟩:∃fv,fv=E.put (aC h.next) ⟨w.heap.size,0,0⟩:=⟨_,rfl⟩
   obtain ⟨bU,oe⟩:∃bU:World,bU={w with heap:=w.heap.push (.deferred (some []))}:=⟨_,rfl⟩
   have yt:fv (aC h.next)=some ⟨w.heap.size,0,0⟩:=by rw [s9];unfold Env.put;rw [if_pos rfl]
   have s1:a8 az fv (h.new .fb) bU:=by
    rw [s9,oe]
    refine s.alloc 0 ⟨⟨w.heap.size,0,0⟩,by unfold Env.put;rw [if_pos rfl],s.frame.size,by simp⟩
   have np:E.le fv:=by rw [s9];exact Env.jW f0
   have tD:bU.heap.size=w.heap.size+1:=by rw [oe];simp
   obtain ⟨o,aU⟩:∃o:Loop,o={state:=.ready,pending:=none,fn,tmps:=a.tmps,params:=bd,assign,body,defers:=w.heap.size}:=⟨_,rfl⟩
   obtain ⟨bV,qc⟩:∃bV,bV=fv.put (aC (h.next+1)) ⟨bU.heap.size,0,0⟩:=⟨_,rfl⟩
   obtain ⟨bQ,rM⟩:∃bQ:World,bQ={bU with heap:=bU.heap.push (.loop o)}:=⟨_,rfl⟩
   have f1:fv (aC (h.next+1))=none:=s1.fresh (h.next+1) (Nat.le_refl _)
   have kp:fv.le bV:=by rw [qc];exact Env.jW f1
   have yu:bV (aC (h.next+1))=some ⟨bU.heap.size,0,0⟩:=by rw [qc];unfold Env.put;rw [if_pos rfl]
   have dk:sD bV ⟨0,none,aC h.next,ax,r,bd.toList,assign,body⟩ o:=by
    subst aU
    exact ⟨rfl,rfl,rfl,rfl,rfl,k.size,fun t aG=>Rel.mono (np.trans kp) _ _ (k.an t aG),_,kp _ _ yt,rfl⟩
   have s2:a8 az bV ((h.new .fb).new (.dk ⟨0,none,aC h.next,ax,r,bd.toList,assign,body⟩)) bQ:=by
    rw [qc,rM]
    refine s1.alloc 0 ⟨⟨bU.heap.size,0,0⟩,o,by show fv.put (aC (h.next+1)) _ (aC (h.next+1))=_;unfold Env.put;rw [if_pos rfl],by show az.w.heap.size≤bU.heap.size;rw [tD];have:=s.frame.size;omega,by simp,?_⟩
    have:=dk
    rw [qc] at this
    exact this
   obtain ⟨gV,n2⟩:∃gV,gV=bU.heap.size:=⟨_,rfl⟩
   have a1:Rel bV (.func c7 [.ptr (aC (h.next+1)) 0]) (.func (.yield gV) #[] #[]):=by
    simp only [Rel]
    exact .inr ⟨trivial,_,_,rfl,yu,by rw [n2]⟩
   have nW:a_ bV (.func c7 [.ptr (aC (h.next+1)) 0]::cs) (.func (.yield gV) #[] #[]::ei.toList):=by
    simp only [a_]
    exact ⟨_,_,rfl,a1,a_.mono (np.trans kp) _ _ ak⟩
   have cH:=Bm (C:=C) bD c1 fT hex (f:=g) nW s2 (R:=rangePost (b4 none) 0 C.P gV Q {a with defers:=[{target:=.collected w.heap.size,args:=#[]}]++a.defers})
   cases aJ:(vk C g).run ex (.func c7 [.ptr (aC (h.next+1)) 0]::cs) ((h.new .fb).new (.dk ⟨0,none,aC h.next,ax,r,bd.toList,assign,body⟩)) with
   | fail=>rw [aJ] at aj;exact aj.elim
   | cw _ _=>rw [aJ] at aj;exact aj.elim
   | val v ab=>
     rw [aJ] at aj cH
     simp only at aj
     obtain ⟨⟨ZG,hg,ai⟩,aw⟩:=cH (by
      intro ay x ar al aq aK
      simp only [rangePost]
      unfold QI at aj
      have hX:=al _ _ yu
      have ai:=aK.at hX
      cases qk:ab.get (aC (h.next+1))<;>rw [qk] at aj ai<;>simp only at aj<;>try (exact aj.elim)
      rename_i l
      obtain ⟨p',b6,gi,cS,ba,G'⟩:=ai
      rw [hX] at gi;cases gi
      obtain ⟨t1,t2,t3,t4,t5,t6,t7,t8⟩:=G'
      rw [gE] at aj
      by_cases cz:l.st=1
      · rw [if_pos cz] at aj;exact aj.elim
      · rw [if_neg cz] at aj
        simp only at ba
        rw [←n2] at ba
        have Hg:(b6.state == LoopState.busy)=false:=by
         rw [t1]
         match mj:l.st with
         | 0=>rfl
         | 1=>exact absurd mj cz
         | n+2=>rfl
        have kh:=(Array.getElem?_eq_some_iff.1 ba).1
        let hO:World:={ar with heap:=ar.heap.setIfInBounds gV (.loop {b6 with state:=.exhausted})}
        have fq:(Instr.endLoop gV).run C.P ar=.ok b6.pending hO:=by
         have qz:(setObj gV (.loop {b6 with state:=.exhausted})).run C.P ar=.ok () hO:=by simp only [setObj,Sem.run,ba];rfl
         simp only [Instr.endLoop,Sem.run_bind,run_getLoop ba,Result.andThen_ok,Hg,Bool.false_eq_true,if_false,qz,Sem.run_pure]
        have wR:a8 az ay (ab.set (aC (h.next+1)) .dead) hO:=by
         refine aK.gone (p:=⟨bU.heap.size,0,0⟩) (by rw [qk];rfl) hX cS (by simp [hO]) (fun j bH=>?_) rfl rfl rfl
         simp only at bH
         simp only [hO,Array.getElem?_setIfInBounds]
         rw [if_neg (fun e=>bH (by rw [←e,n2]))]
        have gw:eP ay ax (T.put .bad (.tuple (.ptr (aC h.next) 0::(T.get .bad ep r).list)) ep r) {a with defers:=[{target:=.collected w.heap.size,args:=#[]}]++a.defers}:=by
         refine ⟨⟨k.size,fun t aG=>?_⟩,?_⟩
         · rw [T.hd,if_neg (fun e=>tZ aG e.symm)]
           exact Rel.mono (np.trans (kp.trans al)) _ _ (k.an t aG)
         · rw [T.hd,if_pos rfl]
           simp only [j5,l6,List.cons_append,List.nil_append]
           exact ⟨_,_,rfl,⟨_,al _ _ (kp _ _ yt),rfl⟩,(k.defers.mono (np.trans (kp.trans al))).list⟩
        refine ⟨b6.pending,hO,fq,?_⟩
        rw [t2]
        cases ib:l.ed with
        | none=>
          rw [ib] at aj
          exact aj ay _ hO (np.trans (kp.trans al)) gw wR
        | some e=>
          rw [ib] at aj
          exact Zl (aj ay _ hO (np.trans (kp.trans al)) gw wR))
     refine ⟨gV,[{target:=.collected w.heap.size,args:=#[]}],bQ,{target:=.fn (.func g) ei,args:=#[]++#[.func (.yield gV) #[] #[]]},bQ,g,_,bQ,?_,?_,fun _ _=>trivial,?_,fun h=>by simp at h,rr.2 aw⟩
     · subst aU rM oe
       have he:=run_enterLoop_outer (P:=C.P) (w:=w) fn a.tmps bd assign body
       rw [World.alloc,World.alloc] at he
       simp only [Array.size_push] at n2 ⊢
       rw [n2]
       exact he
     · simp only [resolve,c4,Deferred.ofValue,Sem.run_pure]
       simp [Act.eval]
     · simp only [invoke]
       have e:(#[]++#[Value.func (.yield gV) #[] #[]]:Array Value)++ei=(Value.func (.yield gV) #[] #[]::ei.toList).toArray:=by apply Array.ext';simp
       rw [e]
       exact si bD hg ai _ bQ
theorem wX {P:Program} {b:Frame} {a:Act} {k:List Item} {cs:List Frame} {w:World} {c:Code}:
 step P (lone (b.atR a (.code (.scope c)::k)) cs w)=.next (lone (b.atR a (.code c::.inScope c::k)) cs w):=
 step_lone_go (by simp [stepG,stepG.exec,Frame.atR])
theorem aiD {P:Program} {b:Frame} {a:Act} {k:List Item} {cs:List Frame} {w:World} {c:Code}:
 step P (lone (b.atR a (.inScope c::k)) cs w)=.next (lone (b.atR a k) cs w):=
 step_lone_go (by simp [stepG,stepG.exec,Frame.atR])
theorem Rb {P:Program} {rd:Option Nat} {c:Code} {Q:Exit→Act→World→Prop} {a:Act} {w:World} (h:c.wpIn (b4 rd) 0 P (Exit.noGoto Q) a w):(Code.scope c).wpIn (b4 rd) 0 P Q a w:=by
 intro b k cs kk ai aJ
 obtain ⟨e,pX,q7,aF,iu⟩:=h b (.inScope c::k) cs kk ai aJ
 have au:∀id,exitTo id (.inScope c::k)=exitTo id k:=fun id=>by simp [exitTo]
 cases e with
 | normal=>exact ⟨.normal,pX,q7,aF,.head (o4 _) wX (StepsIn.trans iu (.one (o4 _) aiD))⟩
 | exit id=>exact ⟨.exit id,pX,q7,aF,fun bn aD=>.head (o4 _) wX (iu.1 bn (by rw [au];exact aD)),fun qv aD=>let ⟨k₁,aa,ae⟩:=iu.2 qv (by rw [au];exact aD);⟨k₁,aa,.head (o4 _) wX ae⟩⟩
 | goto l=>exact aF.elim
 | ret=>exact ⟨_,pX,q7,aF,.of_steps (.one (o4 _) wX) iu⟩
 | panic aj9=>exact ⟨_,pX,q7,aF,.of_steps (.one (o4 _) wX) iu⟩
 | outgrown=>exact ⟨_,pX,q7,aF,.of_steps (.one (o4 _) wX) iu⟩
theorem Yt (c1:C.P.follows .mixedOrders=true) (bD:ec C.P) (fT:nJ C) {ex:ha} (hex:q_ C.P ex) (ax:Nat):∀c:Code,Ka C.P ax c ((h6 C ax c).run ex):=by
 have cH:=X1 c1 bD fT hex
 have dh:=X0 (C:=C) ex
 intro c
 induction c with
 | skip=>
   intro rd az r h aJ E a w k s Q aj
   exact wpIn_skip (aj E a w (Env.le.refl E) k s)
 | label l=>
   intro rd az r h aJ E a w k s Q aj
   exact wpIn_label (aj E a w (Env.le.refl E) k s)
 | exit id=>
   intro rd az r h aJ E a w k s Q aj
   exact wpIn_exit (aj E a w (Env.le.refl E) k s)
 | ret=>
   intro rd az r h aJ E a w k s Q aj
   exact wpIn_ret (aj E a w (Env.le.refl E) k s)
 | region id ops draw=>
   intro rd az r h aJ E a w k s Q aj
   have lift:∀x:mR,uO az E ax Q (match x with | .ok bt ab=>.ok .normal bt ab | .cw v bt ab=>.cw v bt ab | .fail=>.fail)→l9 az E ax (Q .normal) Q x:=by
    intro x au
    cases x<;>exact au
   cases draw with
   | true=>
     simp only [h6,cond_true,C8] at aj
     exact YY c1 bD cH dh (lift _ aj) k s
   | false=>
     simp only [h6,cond_false,C8] at aj
     refine wpIn_region ?_
     have:=P0 (rd:=rd) (Q:=Q) bD cH dh ops.toList 0 (fun j=>by simp) (aJ.imp (fun h=>h) fun h=>by simpa only [noMark,List.all_eq_true] using h) E r h a w (lift _ aj) k s
     rw [List.range_eq_range']
     simpa using this
 | seq x y tG tH=>
   intro rd az r h aJ E a w k s Q aj
   simp only [h6,Rc] at aj
   have vS:rd=none∨noMark x=true:=aJ.imp (fun h=>h) fun h=>by simp only [noMark,Bool.and_eq_true] at h;exact h.1
   have HC:rd=none∨noMark y=true:=aJ.imp (fun h=>h) fun h=>by simp only [noMark,Bool.and_eq_true] at h;exact h.2
   refine wpIn_seq (tG rd az r h vS E a w k s _ ?_).wp
   cases au:(h6 C ax x).run ex r h with
   | fail=>rw [au] at aj;exact aj
   | cw v bp aa=>rw [au] at aj;exact aj
   | ok aB bp aa=>
     rw [au] at aj
     simp only at aj
     intro ay bk ar al aq aK
     cases aB with
     | normal=>exact (tH rd az bp aa HC ay bk ar aq aK Q (aj.up al)).wp
     | exit id=>exact aj ay bk ar al aq aK
     | ret=>exact aj ay bk ar al aq aK
 | cond c x y tG tH=>
   intro rd az r h aJ E a w k s Q aj
   simp only [h6,LN] at aj
   have vS:rd=none∨noMark x=true:=aJ.imp (fun h=>h) fun h=>by simp only [noMark,Bool.and_eq_true] at h;exact h.1
   have HC:rd=none∨noMark y=true:=aJ.imp (fun h=>h) fun h=>by simp only [noMark,Bool.and_eq_true] at h;exact h.2
   have aw:=dv k.toRegRel0 c
   cases bs:(bO c).run r<;>rw [bs] at aj aw<;>simp only at aj<;>try (exact aj.elim)
   rename_i t
   simp only [Rel] at aw
   cases t with
   | true=>exact wpIn_cond_true aw (tG rd az r h vS E a w k s Q aj).wp
   | false=>exact wpIn_cond_false aw (tH rd az r h HC E a w k s Q aj).wp
 | block id x bg=>
   intro rd az r h aJ E a w k s Q aj
   simp only [h6,K9] at aj
   refine wpIn_block (bg rd az r h (aJ.imp (fun h=>h) fun h=>h) E a w k s _ ?_).wp
   cases au:(h6 C ax x).run ex r h with
   | fail=>rw [au] at aj;exact aj
   | cw v bp aa=>rw [au] at aj;exact aj
   | ok aB bp aa=>
     rw [au] at aj
     simp only at aj
     intro ay bk ar al aq aK
     cases aB with
     | normal=>exact aj ay bk ar al aq aK
     | ret=>exact aj ay bk ar al aq aK
     | exit i=>
       simp only [gE] at aj
       simp only [toExit,Exit.inBlock]
       by_cases av:i=id
       · rw [if_pos av] at aj ⊢;exact aj ay bk ar al aq aK
       · rw [if_neg av] at aj ⊢;exact aj ay bk ar al aq aK
 | loop x bg=>
   intro rd az r h aJ E a w k s Q aj
   simp only [h6,Pe] at aj
   have vS:rd=none∨noMark x=true:=aJ.imp (fun h=>h) fun h=>h
   intro b cU cs kk
   cases au:(h6 C ax x).run ex r h with
   | fail=>rw [au] at aj;exact aj.elim
   | cw v bp aa=>
     rw [au] at aj
     have body:=(bg rd az r h vS E a w k s (fun db bk ar=>∃y,db=.panic y∧Q db bk ar) (by rw [au];exact fun ay bk ar x al aq aK bG=>⟨_,rfl,aj ay bk ar x al aq aK bG⟩)).wp b (.inLoop x::cU) cs kk trivial (Jo _)
     obtain ⟨aO,a2,bQ,⟨y,rfl,q⟩,iu⟩:=body
     exact ⟨_,a2,bQ,q,.pass (x:=.inLoop x) rfl (fun _ _=>.inl (by simp)) iu⟩
   | ok aB bp aa=>
     rw [au] at aj
     simp only at aj
     have body:=(bg rd az r h vS E a w k s
      (fun db bk ar=>db=toExit aB∧∃ay,E.le ay∧eP ay ax bp bk∧a8 az ay aa ar) (by rw [au];exact fun ay bk ar al aq aK=>⟨rfl,ay,al,aq,aK⟩)).wp b (.inLoop x::cU) cs kk trivial (Jo _)
     obtain ⟨aO,a2,bQ,⟨rfl,bV,al,aq,aK⟩,iu⟩:=body
     cases aB with
     | normal=>
       have next:=hex ax (.loop x) rd az bp aa aJ bV a2 bQ aq aK Q (aj.up al)
       obtain ⟨cc,a3,kz,b1,cg⟩:=next b cU cs kk
       exact ⟨cc,a3,kz,b1,.of_steps (StepsIn.trans iu (.one (o4 _) stepR_inLoop)) cg⟩
     | exit id=>exact ⟨.exit id,a2,bQ,aj bV a2 bQ al aq aK,.pass (x:=.inLoop x) rfl (fun _ _=>.inl (by simp)) iu⟩
     | ret=>exact ⟨.ret,a2,bQ,aj bV a2 bQ al aq aK,.pass (x:=.inLoop x) rfl (fun _ _=>.inl (by simp)) iu⟩
 | scope x bg=>
   intro rd az r h aJ E a w k s Q aj
   simp only [h6] at aj
   refine Rb (bg rd az r h (aJ.imp (fun h=>h) fun h=>h) E a w k s _ ?_).wp
   cases au:(h6 C ax x).run ex r h with
   | fail=>rw [au] at aj;exact aj
   | cw v bp aa=>rw [au] at aj;exact aj
   | ok aB bp aa=>
     rw [au] at aj
     intro ay bk ar al aq aK
     have:=aj ay bk ar al aq aK
     cases aB<;>exact this
 | rangeFunc f bd x y _ _=>
   intro rd az r h aJ E a w k s Q aj
   rcases aJ with rfl | aJ
   case inr=>cases aJ
   simp only [h6] at aj
   exact ahu c1 bD fT hex k s aj
 | goto l=>intro rd az r h aJ E a w k s Q aj;exact aj.elim
 | refuse ajp=>intro rd az r h aJ E a w k s Q aj;exact aj.elim
end
end Go.Proofs.YtkehcalakofigaaGreatDoor.aS
namespace Go.Proofs.YtkehcalakofigaaGreatDoor.aS
variable [Lay]
open Go Go.RowKit
section
variable {C:Ctx}
theorem My (c1:C.P.follows .mixedOrders=true) (bD:ec C.P) (fT:nJ C):∀n,q_ C.P (exec C n)
 | 0=>fun ax c rd az r h aJ E a w k s Q aj=>aj.elim
 | n+1=>fun ax c=>Yt c1 bD fT (My c1 bD fT n) ax c
theorem FF (c1:C.P.follows .mixedOrders=true) (bD:ec C.P) (fT:nJ C) {n:Nat} {f:FuncId} {args:List V} {h ab:af} {v:V} (aA:Nat.beq f c7=false) (au:C.ext f=none) (he:p3 C n f args h=.val v ab)
 {az:Fr} {E:Env} {w:World} {xs:List Value} (ak:a_ E args xs) (s:a8 az E h w):
 (∃fn,C.P.funcs[f]? =some fn∧fn.body.isSome=true)∧Calls C.P f xs.toArray w fun e ar=>∃ay x,e=.returned x∧E.le ay∧Rel ay v x∧a8 az ay ab ar:=by
 unfold p3 p4 at he
 rw [aA,cond_false,au] at he
 simp only at he
 exact Bm bD c1 fT (My c1 bD fT n) ak s (by rw [he];exact fun ay x ar al aq aK=>⟨ay,x,rfl,al,aq,aK⟩)
theorem Dh (w:World) (hw:Lay.ok w):a8 ⟨w,fun _=>none⟩ (fun _=>none) af.empty w:=by
 refine ⟨fun b _=>?_,fun _ _ h=>(by cases h),(fun b bJ p p' _ _ h=>by cases h),fun _ _=>rfl,Below.refl _ _,hw,(fun _ _ _ _ _ _ h=>by cases h)⟩
 have:af.empty.get b=.dead:=by simp [af.get,af.empty]
 rw [this]
 trivial
theorem ai8 (c1:C.P.follows .mixedOrders=true) (bD:ec C.P) {w:World} (hw:Lay.ok w) (fT:nJ C) {n:Nat} {f:FuncId} (aA:Nat.beq f c7=false) (au:C.ext f=none) (h:JS C n f []=true):
 Calls C.P f #[] w fun e ar=>e=.returned (.bool true)∧Below w.heap.size w ar:=by
 unfold JS at h
 cases aw:p3 C n f [] af.empty with
 | fail=>rw [aw] at h;cases h
 | cw _ _=>rw [aw] at h;cases h
 | val v ba=>
   rw [aw] at h
   simp only at h
   cases v<;>simp only at h<;>try (cases h;done)
   subst h
   obtain ⟨_,iw⟩:=FF c1 bD fT aA au aw (az:=⟨w,fun _=>none⟩) (E:=fun _=>none) (w:=w) (xs:=[]) rfl (Dh w hw)
   refine iw.mono fun e ar aF=>?_
   obtain ⟨ay,x,rfl,_,aq,aK⟩:=aF
   simp only [Rel] at aq
   subst aq
   exact ⟨rfl,aK.frame⟩
end
end Go.Proofs.YtkehcalakofigaaGreatDoor.aS
namespace Go.Proofs.YtkehcalakofigaaGreatDoor.aS
variable [Lay]
open Go Go.RowKit Go.ChangeShapes Go.WideShapes
section
variable {H:Type} {enc:TypeId × Value→H} {P:Program}
end
end Go.Proofs.YtkehcalakofigaaGreatDoor.aS
namespace Go.Proofs.YtkehcalakofigaaGreatDoor.aS
variable [Lay]
open Go Go.RowKit
theorem a8.below {az:Fr} {E:Env} {h:af} {w ar:World} (s:a8 az E h w) (ai:Below w.heap.size w ar):a8 az E h ar:=by
 have b7:az.w.heap.size≤w.heap.size:=s.frame.size
 have e8:∀(k:Nat) (o:Obj),w.heap[k]? =some o→ar.heap[k]? =some o:=by
  intro k o aD
  rw [ai.block k,aD]
  by_cases aN:k<w.heap.size
  · exact aN
  · rw [Array.getElem?_eq_none (by omega)] at aD
    cases aD
 refine ⟨fun b aj=>?_,s.nz,s.inj,s.fresh,s.frame.trans (ai.mono b7),s.laid,s.base⟩
 have:=s.a7 b aj
 cases aD:h.get b<;>rw [aD] at this<;>simp only [fH] at this ⊢
 · obtain ⟨al,p,c,el,bS,aq,aK,bG,di⟩:=this
   exact ⟨al,p,c,el,bS,aq,aK,e8 _ _ bG,di⟩
 · obtain ⟨al,p,c,el,bS,aq,aK,bG,di⟩:=this
   exact ⟨al,p,c,el,bS,aq,aK,e8 _ _ bG,di⟩
 · obtain ⟨p,al,aq,aK,bG⟩:=this
   exact ⟨p,al,aq,aK,e8 _ _ bG⟩
 · obtain ⟨p,a,al,aq,aK,bG⟩:=this
   exact ⟨p,a,al,aq,e8 _ _ aK,bG⟩
 · obtain ⟨p,o,al,aq,aK,bG⟩:=this
   exact ⟨p,o,al,aq,e8 _ _ aK,bG⟩
 · obtain ⟨p,al,aq,aK⟩:=this
   exact ⟨p,al,aq,e8 _ _ aK⟩
 · obtain ⟨p,a,c,l,al,aq,aK,bG⟩:=this
   exact ⟨p,a,c,l,al,aq,e8 _ _ aK,bG⟩
 · obtain ⟨p,m,a,al,aq,aK,bG,di⟩:=this
   exact ⟨p,m,a,al,aq,aK,e8 _ _ bG,di⟩
theorem aeQ {P:Program} {f:FuncId} {args:List V} {v:V} {h:af} (H:∀E xs w,Lay.ok w→a_ E args xs→Calls P f xs.toArray w fun e ar=>∃x,e=.returned x∧Rel E v x∧Below w.heap.size w ar)
 (az:Fr) (E:Env) (w:World) (xs:List Value) (au:a_ E args xs) (s:a8 az E h w):Calls P f xs.toArray w fun e ar=>∃ay x,e=.returned x∧E.le ay∧Rel ay v x∧a8 az ay h ar:=by
 refine (H E xs w (Lay.e8 s.laid s.frame) au).mono fun e ar q=>?_
 obtain ⟨x,rfl,bs,ai⟩:=q
 exact ⟨E,x,rfl,Env.le.refl E,bs,s.below ai⟩
theorem Zn {P:Program} {f:FuncId} {fn:Func} {e:Array Value→Sem Value} (aA:P.funcs[f]? =some fn) (aX:(fn.name == "runtime.NumGoroutine")=false) (ai:fn.body.isNone=true) (aa:Extern.findNext fn=none) (ae:Extern.find fn=some e)
 {xs:Array Value} {x:Value} {w:World} (aJ:(e xs).run P w=.ok x w):(callFunc f xs).run P w=.ok (.value x) w:=by
 simp only [callFunc,Sem.run_bind,run_program,Result.andThen_ok,aA]
 rw [if_neg (by rw [aX];simp),if_pos ai]
 simp only [Sem.run_bind,aa,ae]
 have hm:(mark (.extern f)).run P w=.ok () w:=rfl
 rw [hm]
 simp only [Result.andThen_ok,aJ,Sem.run_pure]
def yQ (c:Nat):List UInt8→Nat→Int
 | [],_=>-1
 | b::l,i=>bif Nat.beq b.toNat c then .ofNat i else yQ c l (i+1)
theorem OF (c:Nat) (aw:c<256):∀(l:List UInt8) (i:Nat),yQ c l i=if Lib.indexByte l c.toUInt8=-1 then -1 else Lib.indexByte l c.toUInt8+i
 | [],i=>by simp [yQ,Lib.indexByte]
 | b::l,i=>by
   have ix:=Lib.indexByte_ge l c.toUInt8
   have rF:(b.toNat=c)↔(b == c.toUInt8)=true:=by
    rw [beq_iff_eq,←UInt8.toNat_inj]
    have:c.toUInt8.toNat=c:=by
     show c % 256=c
     omega
    rw [this]
   have e:Lib.indexByte (b::l) c.toUInt8=if (b == c.toUInt8)=true then 0 else if (Lib.indexByte l c.toUInt8 == -1)=true then -1 else Lib.indexByte l c.toUInt8+1:=rfl
   simp only [yQ,OF c aw l (i+1),gE]
   by_cases h:b.toNat=c
   · rw [if_pos (rF.1 h)] at e
     rw [if_pos h,e]
     simp
   · rw [if_neg (fun e=>h (rF.2 e))] at e
     rw [if_neg h]
     by_cases ae:Lib.indexByte l c.toUInt8=-1
     · rw [ae] at e
       simp only [beq_self_eq_true,if_true] at e
       simp [ae,e]
     · have aI:(Lib.indexByte l c.toUInt8 == -1)=false:=by simpa using ae
       rw [aI] at e
       simp only [Bool.false_eq_true,if_false] at e
       rw [if_neg ae,e,if_neg (by omega)]
       omega
def preB:List UInt8→List UInt8→Bool
 | [],_=>true
 | _::_,[]=>false
 | a::x,b::y=>bif Nat.beq a.toNat b.toNat then preB x y else false
theorem I0:∀(x y:List UInt8),preB x y=x.isPrefixOf y
 | [],y=>by cases y<;>rfl
 | _::_,[]=>rfl
 | a::x,b::y=>by
   simp only [preB,List.isPrefixOf,gE,I0 x y]
   by_cases h:a.toNat=b.toNat
   · have:a=b:=UInt8.toNat_inj.1 h
     subst this
     simp
   · have:(a == b)=false:=by
      rw [beq_eq_false_iff_ne]
      exact fun e=>h (by rw [e])
     rw [if_neg h,this]
     rfl
def hasB:List UInt8→List UInt8→Bool
 | [],sub=>preB sub []
 | b::l,sub=>bif preB sub (b::l) then true else hasB l sub
theorem Nn:∀(s sub:List UInt8),hasB s sub=Lib.contains s sub
 | [],sub=>by
   simp only [hasB,I0,Lib.contains,Lib.index]
   cases sub<;>simp
 | b::l,sub=>by
   simp only [hasB,I0]
   have bg:=Nn l sub
   unfold Lib.contains at bg ⊢
   unfold Lib.index
   cases h:sub.isPrefixOf (b::l) with
   | true=>simp
   | false=>
     simp only [cond_false,Bool.false_eq_true,if_false,bg]
     have ix:=Lib.index_ge l sub
     cases ae:(Lib.index l sub == -1) with
     | true=>
       have:Lib.index l sub=-1:=by simpa using ae
       simp [this]
     | false=>
       have:Lib.index l sub≠-1:=by simpa using ae
       simp only [Bool.false_eq_true,if_false]
       rw [Bool.eq_iff_iff,decide_eq_true_eq,decide_eq_true_eq]
       omega
def FM:uP:=⟨fun args h=>match args with
 | [x,y]=>(match x with
   | .str s=>(match y with
     | .str sub=>bif Nat.ble s.length 100000 then .val (.bool (hasB s sub)) h else .fail
     | _=>.fail)
   | _=>.fail)
 | _=>.fail⟩
theorem Yx {args:List V} {h ab:af} {v:V} (he:FM.run args h=.val v ab):∃s sub,args=[.str s,.str sub]∧s.length≤100000∧v=.bool (Lib.contains s sub)∧ab=h:=by
 simp only [FM] at he
 split at he
 case h_2=>cases he
 split at he
 case h_2=>cases he
 split at he
 case h_2=>cases he
 obtain ⟨aw,aa⟩:=jK he
 simp only [aZ.val.injEq] at aa
 obtain ⟨rfl,rfl⟩:=aa
 exact ⟨_,_,rfl,Nat.le_of_ble_eq_true aw,by rw [Nn],rfl⟩
def B5:uP:=⟨fun args h=>match args with
 | [x,y]=>(match x with
   | .str s=>(match y with
     | .int k c=>bif mY k .u8&&(Int.leB 0 c&&Nat.blt c.toNat 256) then .val (.int .i64 (yQ c.toNat s 0)) h else .fail
     | _=>.fail)
   | _=>.fail)
 | _=>.fail⟩
theorem acN {args:List V} {h ab:af} {v:V} (he:B5.run args h=.val v ab):∃s c,args=[.str s,.int .u8 c]∧v=.int .i64 (Lib.indexByte s c.toNat.toUInt8)∧ab=h:=by
 simp only [B5] at he
 split at he
 case h_2=>cases he
 split at he
 case h_2=>cases he
 split at he
 case h_2=>cases he
 rename_i s _ k c
 obtain ⟨aw,aa⟩:=jK he
 simp only [Bool.and_eq_true,Nat.blt_eq] at aw
 have aD:=ry aw.1
 subst aD
 simp only [aZ.val.injEq] at aa
 obtain ⟨rfl,rfl⟩:=aa
 refine ⟨s,c,rfl,?_,rfl⟩
 rw [OF _ aw.2.2]
 by_cases h:Lib.indexByte s c.toNat.toUInt8=-1
 · rw [if_pos h,h]
 · rw [if_neg h]
   simp
theorem acM {P:Program} {f:FuncId} {fn:Func} (aA:P.funcs[f]? =some fn) (aX:(fn.name == "runtime.NumGoroutine")=false) (ai:fn.body.isNone=true) (aa:Extern.findNext fn=none) (ae:Extern.find fn=some Extern.BytealgIndexByte.indexByte)
 {args:List V} {h ab:af} {v:V} (he:B5.run args h=.val v ab) (az:Fr) (E:Env) (w:World) (xs:List Value) (au:a_ E args xs) (s:a8 az E h w):
 ∃ay x ar,(callFunc f xs.toArray).run P w=.ok (.value x) ar∧E.le ay∧Rel ay v x∧a8 az ay ab ar:=by
 obtain ⟨t,c,rfl,rfl,rfl⟩:=acN he
 obtain ⟨y,cm,rfl,al,z,gD,rfl,aq,rfl⟩:=au
 simp only [Rel] at al aq
 subst al aq
 exact ⟨E,_,w,Zn aA aX ai aa ae (Lib.run_indexByteString _ _ _),Env.le.refl E,by simp [Rel],s⟩
end Go.Proofs.YtkehcalakofigaaGreatDoor.aS
namespace Go.Proofs.YtkehcalakofigaaGreatDoor.aS
variable [Lay]
open Go Go.RowKit Go.Maps Go.Sort Go.Shelf
open Go.Proofs (encStr)
def mb (clock:Nat):Nat→List ca→Bool
 | _,[]=>true
 | bm,m::ms=>Nat.ble bm m.born&&Nat.blt m.born clock&&mb clock (m.born+1) ms
theorem Ex {clock:Nat}:∀{bm:Nat} {es:List ca},mb clock bm es=true→(∀n ∈ es.map (·.born),bm≤n∧n<clock)∧(es.map (·.born)).Nodup
 | bm,[],_=>⟨by simp,by simp⟩
 | bm,m::ms,h=>by
   simp only [mb,Bool.and_eq_true,Nat.ble_eq,Nat.blt_eq] at h
   obtain ⟨g1,g2⟩:=Ex h.2
   refine ⟨fun n aX=>?_,?_⟩
   · rw [List.map_cons] at aX
     rcases List.mem_cons.1 aX with rfl | aX
     · exact h.1
     · have:=g1 n aX
       omega
   · rw [List.map_cons]
     refine List.nodup_cons.2 ⟨fun q=>?_,g2⟩
     have:=g1 _ q
     omega
theorem P8 {az:Fr} {E:Env} {h:af} {w:World} (s:a8 az E h w) {b:aQ} {q:hS} (aU:(h.get b).own=true) (aF:E b=some q):q.a7<w.heap.size:=by
 have ai:=s.at aF
 cases aH:h.get b with
 | dead=>rw [aH] at aU;cases aU
 | view n cs=>rw [aH] at aU;cases aU
 | cells n cs cp st=>rw [aH] at ai;obtain ⟨_,dZ,c,el,bS,e,_,ba,_⟩:=ai;rw [e] at aF;cases aF;exact (Array.getElem?_eq_some_iff.1 ba).1
 | iter st pos=>rw [aH] at ai;obtain ⟨dZ,e,_,_,ba⟩:=ai;rw [e] at aF;cases aF;exact (Array.getElem?_eq_some_iff.1 ba).1
 | mp es clock=>rw [aH] at ai;obtain ⟨dZ,a,e,_,ba,_⟩:=ai;rw [e] at aF;cases aF;exact (Array.getElem?_eq_some_iff.1 ba).1
 | dk l=>rw [aH] at ai;obtain ⟨dZ,o,e,_,ba,_⟩:=ai;rw [e] at aF;cases aF;exact (Array.getElem?_eq_some_iff.1 ba).1
 | fb=>rw [aH] at ai;obtain ⟨dZ,e,_,ba⟩:=ai;rw [e] at aF;cases aF;exact (Array.getElem?_eq_some_iff.1 ba).1
 | gW es=>rw [aH] at ai;obtain ⟨dZ,a,c,l,e,_,ba,_⟩:=ai;rw [e] at aF;cases aF;exact (Array.getElem?_eq_some_iff.1 ba).1
 | hZ src since seen last=>rw [aH] at ai;obtain ⟨dZ,m,a,e,_,_,ba,_⟩:=ai;rw [e] at aF;cases aF;exact (Array.getElem?_eq_some_iff.1 ba).1
def pk:List ca→Option (List (List UInt8))
 | []=>some []
 | [m]=>match m.k with
   | .str s=>some [s]
   | _=>none
 | _=>none
def zI:List (List UInt8)→Bool
 | []=>true
 | x::l=>Nat.ble x.length 1000000&&zI l
def pE (l:List (List UInt8)):List V:=l.map V.str
noncomputable def Rt (g:FuncId) (cj:aQ) (h:af):aZ:=
 match h.get cj with
 | .cells n cs 0 _=>bif Nat.blt 0 n then (match T.get .bad (aC 0) cs with
   | .map b=>(match h.get b with
     | .mp es clock=>(match pk es with
       | some aL=>bif mb clock 0 es&&zI aL then (match aL with
          | []=>.val .bW h
          | x::l=>(match hK h (pE (x::l)) 1 false with
            | some ab=>.val (.dK (aC h.next) 0 (x::l).length 0) ab
            | none=>.fail)) else .fail
       | none=>.fail)
     | _=>.fail)
   | _=>.fail) else .fail
 | _=>.fail
noncomputable def Jz (g:FuncId):uP:=
 ⟨fun args h=>match args with
   | [.func f [.ptr cj 0]]=>bif Nat.beq f g then Rt g cj h else .fail
   | _=>.fail⟩
theorem ad8:∀{es:List ca} {aL:List (List UInt8)},pk es=some aL→aL.length=es.length∧aL.length≤1
 | [],aL,h=>by simp only [pk,Option.some.injEq] at h;subst h;exact ⟨rfl,by simp⟩
 | [m],aL,h=>by
   simp only [pk] at h
   split at h
   · simp only [Option.some.injEq] at h;subst h;exact ⟨rfl,by simp⟩
   · cases h
 | _::_::_,aL,h=>by simp [pk] at h
theorem ad9 {E:Env}:∀{es:List ca} {aL:List (List UInt8)} {l:List MapEntry},pk es=some aL→dF E es l→l.map (·.key)=aL.map encStr∧l.map (·.born)=es.map (·.born)
 | [],aL,l,h,aJ=>by
   simp only [pk,Option.some.injEq] at h
   simp only [dF] at aJ
   subst h aJ
   exact ⟨rfl,rfl⟩
 | [m],aL,l,h,aJ=>by
   simp only [dF] at aJ
   obtain ⟨e,h',rfl,aa,ae,aI,rfl⟩:=aJ
   simp only [pk] at h
   split at h
   · rename_i n aD
     simp only [Option.some.injEq] at h
     subst h
     rw [aD] at aa
     simp only [Rel] at aa
     simp only [List.map_cons,List.map_nil,aa,aI]
     exact ⟨by first | rfl | trivial,by first | rfl | trivial⟩
   · cases h
 | _::_::_,aL,l,h,aJ=>by simp [pk] at h
theorem R1:∀{l:List (List UInt8)},zI l=true→∀x ∈ l,x.length≤1000000
 | [],_,x,au=>by cases au
 | y::l,h,x,au=>by
   simp only [zI,Bool.and_eq_true,Nat.ble_eq] at h
   rcases List.mem_cons.1 au with rfl | au
   · exact h.1
   · exact R1 h.2 x au
theorem Ri {α:Type} {l m:List α} (h:m.Perm l) (ak:l.length≤1):m=l:=by
 match l,ak with
 | [],_=>exact h.eq_nil
 | [x],_=>exact List.perm_singleton.1 h
theorem aib {α:Type} (le:α→α→Bool) {l:List α} (ak:l.length≤1):l.mergeSort le=l:=Ri (List.mergeSort_perm l le) ak
def Ee (P:Program) (f g:FuncId) (b5:TypeId):Prop:=
 ∀(sy b IB:Nat) (q':DataW Unit) (R:Value→Option (DataW Unit × List MemPlace)) (w:World),sy<w.heap.size→w.cell? ⟨sy,0,none⟩=some (.map (some b))→w.ownsMap P b5 R b IB q'→Maps.size q'≤maxLen→Maps.size q' * 16≤140737488355328→
  Calls P f #[.func (.func g) #[] #[.pointer (some ⟨sy,0,none⟩)]] w fun e ar=>∃(v:Value) (eL:List (List UInt8)),e=.returned v∧eL.Perm (strKeys q')∧
   ar.ownsRow w.heap.size b5 1 v eL.length ((eL.mergeSort (fun x y=>decide (x≤y))).map encStr)∧(v=.slice none 0 0↔eL=[])∧Below w.heap.size w ar
theorem JJ (E:Env):∀l:List (List UInt8),a_ E (pE l) (l.map encStr)
 | []=>rfl
 | x::l=>by
   simp only [pE,List.map_cons,a_]
   exact ⟨_,_,rfl,by simp only [Rel],JJ E l⟩
theorem ait {P:Program} {f g:FuncId} {b5:TypeId} (vF:g≠c7) (kU:P.underlying b5=some .string) (C:Ee P f g b5) {args:List V} {h ab:af} {v:V} (he:(Jz g).run args h=.val v ab)
 (az:Fr) (E:Env) (w:World) (xs:List Value) (au:a_ E args xs) (s:a8 az E h w):
 Calls P f xs.toArray w fun e ar=>∃ay x,e=.returned x∧E.le ay∧Rel ay v x∧a8 az ay ab ar:=by
 match args,he,au with
 | [.func p9 [.ptr cj 0]],he,au=>
   simp only [Jz] at he
   cases th:Nat.beq p9 g with
   | false=>rw [th] at he;cases he
   | true=>
     rw [th] at he
     simp only [cond_true] at he
     have GR:p9=g:=Nat.eq_of_beq_eq_true th
     subst GR
     simp only [a_] at au
     obtain ⟨y,_,rfl,a1,rfl⟩:=au
     simp only [Rel] at a1
     obtain ⟨_,a,rfl,q,_,br,aF,rfl⟩ | ⟨HQ,_⟩:=a1
     rotate_left
     · exact absurd HQ vF
     obtain ⟨p,aj,rfl⟩:=aF
     have Gx:a=#[.pointer (some ⟨p.a7,p.base+0,none⟩)]:=by
      rw [←Array.toList_inj,br]
     subst Gx
     unfold Rt at he
     split at he
     · rename_i n cs st gI
       have kc:=s.base cj p n cs st gI aj
       have iv:=s.at aj
       rw [gI] at iv
       obtain ⟨_,p',c,el,bS,aB,_,o',_,_,_,x8⟩:=iv
       rw [aj] at aB;cases aB
       cases aX:Nat.blt 0 n with
       | false=>rw [aX] at he;cases he
       | true=>
         rw [aX] at he
         simp only [cond_true] at he
         rw [Nat.blt_eq] at aX
         split at he
         · rename_i b mm
           have ta:0<c.size:=by have:=x8.1;omega
           have hI:=x8.2 0 c[0] aX (by rw [kc];exact Array.getElem?_eq_getElem ta)
           rw [mm] at hI
           simp only [Rel] at hI
           obtain ⟨k9,tw,qh⟩:=hI
           split at he
           · rename_i es clock lI
             have yl:=s.at tw
             rw [lI] at yl
             obtain ⟨ag4,am,aO,_,He,qq⟩:=yl
             rw [tw] at aO;cases aO
             cases jQ:pk es with
             | none=>rw [jQ] at he;cases he
             | some aL=>
               rw [jQ] at he
               simp only at he
               cases ql:(mb clock 0 es&&zI aL) with
               | false=>rw [ql] at he;cases he
               | true=>
                 rw [ql] at he
                 simp only [cond_true] at he
                 simp only [Bool.and_eq_true] at ql
                 obtain ⟨g2,g3⟩:=ql
                 obtain ⟨ck,cJ⟩:=ad9 jQ qq
                 obtain ⟨qn,vG⟩:=ad8 jQ
                 have s_:am.size=aL.length:=by
                  have:=congrArg List.length ck
                  simpa using this
                 obtain ⟨bR,cb⟩:=Ex g2
                 have qp:maxLen=9223372036854775807:=by decide
                 have yE:MapKept.Stamped am clock:=by
                  refine ⟨fun x au=>?_,by rw [cJ];exact cb,by
                   rw [ck]
                   match aL,vG with
                   | [],_=>exact List.nodup_nil
                   | [x],_=>exact List.nodup_cons.2 ⟨by simp,List.nodup_nil⟩⟩
                  have:x.born ∈ es.map (·.born):=by rw [←cJ];exact List.mem_map_of_mem au
                  exact (bR _ this).2
                 have yg:∀x ∈ am.toList,∃n ∈ aL,x.key=encStr n:=by
                  intro x au
                  have:x.key ∈ am.toList.map (·.key):=List.mem_map_of_mem au
                  rw [ck] at this
                  obtain ⟨n,aX,e⟩:=List.mem_map.1 this
                  exact ⟨n,aX,e.symm⟩
                 have qx:∀x ∈ am.toList,∃n,x.key=encStr n∧WideElems.rd P b5 (fun _=>some ((.nil:DataW Unit),[])) x=some (.string n,.nil):=by
                  intro x au
                  obtain ⟨n,aX,e⟩:=yg x au
                  refine ⟨n,e,?_⟩
                  unfold WideElems.rd
                  rw [e,show encStr n=.string ⟨⟨n⟩⟩ from rfl,WideMaps.keyOf_string_mk kU (by show n.length≤maxLen;have:=R1 g3 n aX;omega)]
                  rfl
                 have x_:WideElems.Fit P b5 (fun _=>some ((.nil:DataW Unit),[])) am clock:=⟨by rw [s_,qn,qp];omega,yE,fun x au=>by obtain ⟨n,_,e⟩:=qx x au;exact ⟨_,e⟩⟩
                 have fK:w.ownsMap P b5 (fun _=>some ((.nil:DataW Unit),[])) k9.a7 am.size (.map ((am.toList.map (WideElems.rg P b5 (fun _=>some ((.nil:DataW Unit),[])))).foldr DataW.insert [])):=⟨am,clock,He,x_,Nat.le_refl _,rfl⟩
                 have yh:(am.toList.map (WideElems.rg P b5 (fun _=>some ((.nil:DataW Unit),[])))).map (fun p=>(match p.1 with | .string b=>b | _=>[]))=aL:=by
                  have bj:∀(l:List MapEntry) (gD:List (List UInt8)),(∀x ∈ l,∃n,x.key=encStr n∧WideElems.rd P b5 (fun _=>some ((.nil:DataW Unit),[])) x=some (.string n,.nil))→l.map (·.key)=gD.map encStr→(l.map (WideElems.rg P b5 (fun _=>some ((.nil:DataW Unit),[])))).map (fun p=>(match p.1 with | .string b=>b | _=>[]))=gD:=by
                   intro l
                   induction l with
                   | nil=>
                     intro gD _ e
                     cases gD with
                     | nil=>rfl
                     | cons z gD=>simp at e
                   | cons x l bg=>
                     intro gD dT e
                     cases gD with
                     | nil=>simp at e
                     | cons z gD=>
                       simp only [List.map_cons,List.cons.injEq] at e
                       obtain ⟨n,aB,aO⟩:=dT x (List.mem_cons_self ..)
                       have HS:z=n:=by
                        have:=e.1.symm.trans aB
                        exact encStr_inj this
                       rw [List.map_cons,List.map_cons,bg gD (fun y a1=>dT y (List.mem_cons_of_mem _ a1)) e.2]
                       unfold WideElems.rg
                       rw [aO,HS]
                       rfl
                  exact bj am.toList aL qx ck
                 have nU:(strKeys (.map ((am.toList.map (WideElems.rg P b5 (fun _=>some ((.nil:DataW Unit),[])))).foldr DataW.insert []):DataW Unit)).Perm aL:=by
                  have:=(WideShapes.sorted_perm (am.toList.map (WideElems.rg P b5 (fun _=>some ((.nil:DataW Unit),[]))))).map (fun p=>(match p.1 with | .string b=>b | _=>[]))
                  rw [yh] at this
                  exact this
                 have b7:Maps.size (.map ((am.toList.map (WideElems.rg P b5 (fun _=>some ((.nil:DataW Unit),[])))).foldr DataW.insert []):DataW Unit)=aL.length:=by
                  rw [Maps.size_eq,length_sorted,List.length_map,Array.length_toList,s_]
                 have aN:=(Array.getElem?_eq_some_iff.1 o').1
                 have GD:w.cell? ⟨p.a7,0,none⟩=some (.map (some k9.a7)):=by
                  simp only [World.cell?,o']
                  rw [←qh]
                  exact Array.getElem?_eq_getElem ta
                 have call:=C p.a7 k9.a7 am.size _ _ w aN GD fK (by rw [b7,qn,qp];omega) (by rw [b7,qn];omega)
                 rw [show p.base+0=0 from by rw [kc]]
                 refine call.mono fun e ar q=>?_
                 obtain ⟨v0,eL,rfl,al,aq,aK,bG⟩:=q
                 have fk:eL.Perm aL:=al.trans nU
                 have qy:=Ri fk vG
                 rw [qy,aib _ vG] at aq
                 have yB:eL.length=aL.length:=by rw [qy]
                 rw [qy] at aK
                 clear qy fk nU yh call x_ fK qx yg yE ck jQ b7 s_ qn
                 cases aL with
                 | nil=>
                   have:([]:List (List UInt8))=[]:=rfl
                   cases he
                   rw [aK.2 this]
                   exact ⟨E,_,rfl,fun _ _ q=>q,by simp only [Rel],s.below bG⟩
                 | cons x l=>
                   simp only at he
                   cases kT:hK h (pE (x::l)) 1 false with
                   | none=>rw [kT] at he;cases he
                   | some aa=>
                     rw [kT] at he
                     simp only [aZ.val.injEq] at he
                     obtain ⟨rfl,rfl⟩:=he
                     obtain ⟨bp,bT⟩:=aq
                     rcases bT with ⟨_,bT⟩ | ⟨nS,cap,cur,rfl,bT,bX,ew,cu,ek,ft⟩
                     · simp at bT
                     · unfold hK at kT
                       obtain ⟨aw,kT⟩:=dW kT
                       simp only [Bool.and_eq_true,Nat.ble_eq] at aw
                       simp only [Option.some.injEq] at kT
                       subst kT
                       have dy:E.put (aC h.next) ⟨nS,0,cap⟩ (aC h.next)=some ⟨nS,0,cap⟩:=by unfold Env.put;rw [if_pos rfl]
                       have hle:E.le (E.put (aC h.next) ⟨nS,0,cap⟩):=Env.jW (s.fresh h.next (Nat.le_refl _))
                       refine ⟨_,_,rfl,hle,?_,s.add (p:=⟨nS,0,cap⟩) bG.size (fun j bH _=>bG.block j bH) (Nat.le_trans s.frame.size bT) (fun bJ dZ gh mo dO=>?_) bG.os bG.tape bG.output (fun _ _ _ e=>by injection e with _ _ cc;omega) ?_⟩
                       · simp only [Rel]
                         exact ⟨_,dy,by simp only [Nat.zero_add];omega,by simp only [Nat.add_zero,Nat.sub_zero]⟩
                       · have:=P8 s gh mo
                         simp only at dO
                         omega
                       · have fU:=xW (a_.mono hle _ _ (JJ E (x::l))) aw.1 (cur.toList.drop ((x::l).length * 1)).toArray
                         have GF:((x::l).map encStr).toArray++(cur.toList.drop ((x::l).length * 1)).toArray=cur:=by
                          rw [←ft,←Array.toList_inj]
                          simp
                         rw [GF] at fU
                         exact ⟨aw.1,⟨nS,0,cap⟩,cur,b5,(0,0),dy,Nat.le_trans s.frame.size bT,bX,.inr (Nat.le_refl _),fun _=>rfl,fun _=>by simp only;omega,fU⟩
           · cases he
         · cases he
     · cases he
end Go.Proofs.YtkehcalakofigaaGreatDoor.aS
