/- The abstract machine and its walks (a verified interpreter of the model's code: plain definitions and lemmas, no condition). Printed by a program from longer texts: names made short. -/
import Derived.Test.YthemdhlheglhoaaGreatDoorM2
import Derived.Scope
import Derived.RangeFuncRecord
set_option linter.unusedSectionVars false
set_option linter.unusedSimpArgs false
set_option linter.unusedVariables false
namespace Go.Proofs.YthemdhlheglhoaaGreatDoor.aY
variable [Lay]
open Go Go.RowKit
theorem Ae {α:Type} (p q:α→Bool):∀(l:List α),(∀x ∈ l,q x=true→p x=true)→(∃x ∈ l,p x=true∧q x=false)→l.countP q<l.countP p
 | [],_,h=>by obtain ⟨x,ak,_⟩:=h;simp at ak
 | a::l,aa,ae=>by
   have hle:l.countP q≤l.countP p:=List.countP_mono_left fun x ak=>aa x (by simp [ak])
   obtain ⟨x,ak,ag,av⟩:=ae
   simp only [List.mem_cons] at ak
   rcases ak with rfl | ak
   · rw [List.countP_cons,List.countP_cons,ag,av]
     simp
     omega
   · have bj:=Ae p q l (fun y a7=>aa y (by simp [a7])) ⟨x,ak,ag,av⟩
     have bd:=aa a (by simp)
     rw [List.countP_cons,List.countP_cons]
     cases XQ:q a with
     | true=>rw [bd XQ];simp;omega
     | false=>simp;omega
theorem u6 (e:Edge):Region.binds .any e=s6 e:=by
 unfold Region.binds s6
 cases e.ground<;>rfl
section
variable {P:Program}
theorem sr {order:List Nat}:∀{a_:List Nat} {k j p:Nat},yX order k a_=true→a_[j]? =some p→order[p]? =some (k+j)
 | [],_,j,p,_,h=>by simp at h
 | q::a_,k,j,p,ag,h=>by
   simp only [yX,Bool.and_eq_true] at ag
   cases j with
   | zero=>
     simp only [List.getElem?_cons_zero,Option.some.injEq] at h
     subst h
     have aa:=ag.1
     cases av:order[q]? with
     | none=>rw [av] at aa;cases aa
     | some i=>rw [av] at aa;rw [Nat.beq_eq] at aa;rw [aa];rfl
   | succ j=>
     have:=sr ag.2 (show a_[j]? =some p by simpa using h)
     rw [this]
     congr 1
     omega
theorem mH {ops:Array Oper}:∀{order:List Nat} {p i:Nat} {o:Oper},order[p]? =some i→ops[i]? =some o→(hc ops order)[p]? =some o
 | [],p,i,o,h,_=>by simp at h
 | x::xs,p,i,o,h,aQ=>by
   cases p with
   | zero=>
     simp only [List.getElem?_cons_zero,Option.some.injEq] at h
     subst h
     simp [hc,aQ]
   | succ p=>simpa [hc] using mH (show xs[p]? =some i by simpa using h) aQ
theorem o6 {ops:Array Oper}:∀{order:List Nat},(hc ops order).length=order.length
 | []=>rfl
 | x::xs=>by simp [hc,o6 (order:=xs)]
structure Cert (P:Program) (al:Nat) (ops:Array Oper) (calls:Nat→dw) (es:List eM) (bQ:bt) (a6:af) (cL:bt) (ar:af) (ei:List Nat) (order aw:List Nat) (N M:Nat) (lit:Bool):Prop where
 len:es.length=N
 yJ:N≤ops.size
 BP:N≤M
 hR:∀k,k<ops.size→posOf aw k<ops.size∧order[posOf aw k]? =some k
 kO:∀p,p<ops.size→∃i,i<ops.size∧posOf aw i=p
 a6:b2 es ar 0=a6
 bQ:dY es cL 0=bQ
 step:∀i o,ops[i]? =some o→posOf aw i<N→∃e,es[posOf aw i]? =some e∧(ck P al ops o).run (calls i) e.r e.h=.val e.v (b2 es ar (posOf aw i+1))∧dY es cL (posOf aw i+1)=(ft o.dst).run e.r e.v
 ml:∀i o,ops[i]? =some o→∃cy,(eF [] ops.toList)[i]? =some cy∧lY i o=true∧(posOf aw i<M→
  ∀k ok,ops[k]? =some ok→posOf aw k<M→∃mk,(eF [] ops.toList)[k]? =some mk∧oe i cy (bZ ops o) o.dst k mk ok (Nat.blt (posOf aw k) (posOf aw i))=true∧(eP P o.op=true→dU P ok=true→posOf aw k<posOf aw i→fF cy k=true∨(lit=true∧kJ o=true∧kJ ok=true)))
 ends:N ∈ ei
 mem:∀j o,ops[j]? =some o→dU P o=true→posOf aw j ∈ ei
 Ps:∀s ∈ ei,(s=ops.size∨(s=N∧M=N))∨∃k o,ops[k]? =some o∧dU P o=true∧s=posOf aw k
 ask:∀j o,ops[j]? =some o→looks o.op=true→eP P o.op=false→posOf aw j<N→∃e,es[posOf aw j]? =some e∧∀s ∈ ei,
  q4 P (eF [] ops.toList) ops.toList aw j (((eF [] ops.toList)[j]?).getD 0) s=true→∃c ab,(gz P c∧gN P c)∧(ck P al ops o).run c e.r (b2 es ar s)=.val e.v ab
 tail:M<ops.size→M=N∧∀k ok mk,ops[k]? =some ok→N≤posOf aw k→(eF [] ops.toList)[k]? =some mk→∀j,j<ops.size→posOf aw j<N→fF mk j=true
 stop:N<ops.size→ops.size≤M→∃i0 iq m0,ops[i0]? =some iq∧posOf aw i0=N∧ln iq.op=true∧(eF [] ops.toList)[i0]? =some m0∧
  (∀k ok mk,ops[k]? =some ok→N<posOf aw k→(eF [] ops.toList)[k]? =some mk→fF mk i0=true)∧
  (∀k ok,ops[k]? =some ok→gw ok=true→posOf aw k<N→fF m0 k=true)∧∃v ab,(ck P al ops iq).run (calls i0) cL ar=.cv v ab
theorem Ng {o:Oper} (h:ln o.op=true):eP P o.op=true∧gw o=false:=by
 obtain ⟨dst,op,type,pos,after,guard⟩:=o
 cases op<;>simp only [ln] at h<;>try (cases h;done)
 · rename_i c
   obtain ⟨callee,args,types⟩:=c
   cases callee<;>simp only at h<;>try (cases h;done)
   exact ⟨rfl,rfl⟩
 · exact ⟨rfl,rfl⟩
variable {al:Nat} {ops:Array Oper} {call:dw} {calls:Nat→dw} {es:List eM} {bQ:bt} {a6:af} {cL:bt} {ar:af} {ei:List Nat} {order aw:List Nat} {N M:Nat} {lit:Bool}
theorem Cert.ur (C:Cert P al ops calls es bQ a6 cL ar ei order aw N M lit) {k bp:Nat} (aa:k<ops.size) (ae:bp<ops.size) (he:posOf aw k=posOf aw bp):k=bp:=by
 have a:=(C.hR k aa).2
 have b:=(C.hR bp ae).2
 rw [he,b] at a
 cases a
 rfl
theorem Kj {ops:Array Oper} {aw:List Nat} (ar:vb P ops aw=true):∀i o,ops[i]? =some o→∃cy,(eF [] ops.toList)[i]? =some cy∧lY i o=true∧
 ∀k ok,ops[k]? =some ok→∃mk,(eF [] ops.toList)[k]? =some mk∧oe i cy (bZ ops o) o.dst k mk ok (Nat.blt (posOf aw k) (posOf aw i))=true∧(eP P o.op=true→dU P ok=true→posOf aw k<posOf aw i→fF cy k=true):=by
 intro i o aF
 unfold vb at ar
 obtain ⟨cy,aa,ae⟩:=pg ar i o (by simpa using aF)
 simp only [Nat.zero_add,Bool.and_eq_true] at ae
 refine ⟨cy,aa,ae.1,fun k ok ay=>?_⟩
 obtain ⟨mk,bX,b'⟩:=pg ae.2 k ok (by simpa using ay)
 simp only [Nat.zero_add,Bool.and_eq_true] at b'
 refine ⟨mk,bX,b'.1,fun aP bl aW=>?_⟩
 have gG:=b'.2
 rw [aP,bl,Bool.true_and,show Nat.blt (posOf aw k) (posOf aw i)=true from by rw [Nat.blt_eq];exact aW] at gG
 exact gG
theorem Cert.HG (C:Cert P al ops calls es bQ a6 cL ar ei order aw N M lit):∀p,p≤N→∀t,t≤top→
 (∃k o e,posOf aw k<p∧ops[k]? =some o∧o.dst=some t∧es[posOf aw k]? =some e∧T.get .bad (ai t) (dY es cL p)=e.v)∨
 ((∀k o,posOf aw k<p→ops[k]? =some o→o.dst≠some t)∧T.get .bad (ai t) (dY es cL p)=T.get .bad (ai t) bQ)
 | 0,_,t,ax=>.inr ⟨fun k o h=>by omega,by rw [C.bQ]⟩
 | p+1,aF,t,ax=>by
   obtain ⟨i,aW,ju⟩:=C.kO p (by have:=C.yJ;omega)
   have cb:ops[i]? =some ops[i]:=Array.getElem?_eq_getElem aW
   obtain ⟨e,aa,ae,aH⟩:=C.step i ops[i] cb (by omega)
   rw [ju] at aa ae aH
   have F9:dY es cL p=e.r:=by simp [dY,aa]
   have dN:=K1 (r:=e.r) (v:=e.v) (j_ ae).1 ax
   rw [aH,dN]
   by_cases aX:ops[i].dst=some t
   · rw [if_pos aX]
     exact .inl ⟨i,_,e,by omega,cb,aX,by rw [ju];exact aa,rfl⟩
   · rw [if_neg aX,←F9]
     rcases Cert.HG C p (by omega) t ax with ⟨k,o,c_,au,az,aM,bU,ey⟩ | ⟨au,az⟩
     · exact .inl ⟨k,o,c_,by omega,az,aM,bU,ey⟩
     · refine .inr ⟨fun k o ay aQ=>?_,az⟩
       by_cases gv:k=i
       · subst gv;rw [cb] at aQ;cases aQ;exact aX
       · refine au k o ?_ aQ
         have nR:=(Array.getElem?_eq_some_iff.1 aQ).1
         have:posOf aw k≠p:=fun e=>gv (C.ur nR aW (by rw [e,ju]))
         omega
theorem Cert.EE (C:Cert P al ops calls es bQ a6 cL ar ei order aw N M lit):∀p,p≤N→T.get .bad eN (dY es cL p)=T.get .bad eN bQ
 | 0,_=>by rw [C.bQ]
 | p+1,aF=>by
   obtain ⟨i,aW,ju⟩:=C.kO p (by have:=C.yJ;omega)
   have cb:ops[i]? =some ops[i]:=Array.getElem?_eq_getElem aW
   obtain ⟨e,aa,ae,aH⟩:=C.step i ops[i] cb (by omega)
   rw [ju] at aa ae aH
   have F9:dY es cL p=e.r:=by simp [dY,aa]
   have aX:=(j_ ae).1
   rw [aH,←Cert.EE C p (by omega),F9]
   cases WW:ops[i].dst with
   | none=>rfl
   | some d=>
     rw [WW] at aX
     simp only [fe,Bool.and_eq_true,Nat.ble_eq] at aX
     simp only [ft]
     rw [T.hM,if_neg (uo aX.2)]
def nameAt (es:List eM) (ar:af) (aw:List Nat) (k:Nat):aN:=ai (b2 es ar (posOf aw k)).next
noncomputable def xu (es:List eM) (ar:af) (aw:List Nat) (k:Nat):b4:=(b2 es ar (posOf aw k+1)).get (nameAt es ar aw k)
def Made (es:List eM) (ar:af) (aw:List Nat) (k:Nat):Prop:=(b2 es ar (posOf aw k+1)).next≠(b2 es ar (posOf aw k)).next
def jK (ops:Array Oper) (es:List eM) (ar:af) (aw:List Nat) (listed:Array Bool) (s k:Nat):Prop:=
 ∃o,ops[k]? =some o∧(gw o=true∧Made es ar aw k)∧¬listed.getD k false=true∧posOf aw k<s
structure Holds (aq F:Fr) (es:List eM) (ar:af) (aw:List Nat) (D:Nat→Prop):Prop where
 w:F.w=aq.w
 bY:∀b,(∀k,D k→nameAt es ar aw k≠b)→F.c6 b=aq.c6 b
 new:∀k,D k→F.c6 (nameAt es ar aw k)=some (xu es ar aw k)∧aq.c6 (nameAt es ar aw k)=none
 inj:∀k bp,D k→D bp→nameAt es ar aw k=nameAt es ar aw bp→k=bp
theorem Holds.congr {aq F:Fr} {D IH:Nat→Prop} (H:Holds aq F es ar aw D) (h:∀k,IH k↔D k):Holds aq F es ar aw IH:=
 ⟨H.w,fun b ah=>H.bY b fun k ay=>ah k ((h k).2 ay),fun k ay=>H.new k ((h k).1 ay),fun k bp ay hA=>H.inj k bp ((h k).1 ay) ((h bp).1 hA)⟩
theorem Holds.none {aq F:Fr} {D:Nat→Prop} (H:Holds aq F es ar aw D) (h:∀k,¬D k):F=aq:=by
 have:F.c6=aq.c6:=funext fun b=>H.bY b fun k ay=>absurd ay (h k)
 cases F;cases aq
 have hw:=H.w
 simp only at this hw
 rw [this,hw]
theorem Cert.advance (C:Cert P al ops calls es bQ a6 cL ar ei order aw N M lit) {aq:Fr} {listed:Array Bool} {E:Env} {w:World}:∀(d q:Nat),q+d=N→(∀k o,ops[k]? =some o→gw o=true→q≤posOf aw k→¬listed.getD k false=true)→
 ∀F,Holds aq F es ar aw (jK ops es ar aw listed q)→a1 F E (b2 es ar q) w→
 ∃s ej,s ∈ ei∧q≤s∧s≤N∧(∀k o,ops[k]? =some o→dU P o=true→q≤posOf aw k→s≤posOf aw k)∧Holds aq ej es ar aw (jK ops es ar aw listed s)∧a1 ej E (b2 es ar s) w
 | 0,q,av,_,F,H,S=>by
   have:q=N:=by omega
   subst this
   exact ⟨q,F,C.ends,Nat.le_refl _,Nat.le_refl _,fun k o _ _ h=>h,H,S⟩
 | d+1,q,av,r6,F,H,S=>by
   obtain ⟨i,aW,ju⟩:=C.kO q (by have:=C.yJ;omega)
   have cb:ops[i]? =some ops[i]:=Array.getElem?_eq_getElem aW
   cases lK:dU P ops[i] with
   | true=>exact ⟨q,F,by rw [←ju];exact C.mem i _ cb lK,Nat.le_refl _,by omega,fun k o _ _ h=>h,H,S⟩
   | false=>
     obtain ⟨e,aa,ae,aH⟩:=C.step i ops[i] cb (by omega)
     rw [ju] at aa ae
     have r3:b2 es ar q=e.h:=by simp [b2,aa]
     have only:∀k o,ops[k]? =some o→posOf aw k=q→k=i:=fun k o ay ag=>C.ur (Array.getElem?_eq_some_iff.1 ay).1 aW (by rw [ag,ju])
     have fin:∀ej,Holds aq ej es ar aw (jK ops es ar aw listed (q+1))→a1 ej E (b2 es ar (q+1)) w→
      ∃s ej,s ∈ ei∧q≤s∧s≤N∧(∀k o,ops[k]? =some o→dU P o=true→q≤posOf aw k→s≤posOf aw k)∧Holds aq ej es ar aw (jK ops es ar aw listed s)∧a1 ej E (b2 es ar s) w:=by
      intro ej kV zL
      obtain ⟨s,CN,g1,g2,g3,g4,g5,g6⟩:=Cert.advance C d (q+1) (by omega) (fun k o aa ae aH=>r6 k o aa ae (by omega)) ej kV zL
      refine ⟨s,CN,g1,by omega,g3,fun k o ay aD ag=>g4 k o ay aD ?_,g5,g6⟩
      by_cases Ba:posOf aw k=q
      · have:=only k o ay Ba
        subst this
        rw [cb] at ay;cases ay
        rw [lK] at aD;cases aD
      · omega
     have pass:b2 es ar (q+1)=e.h→(gw ops[i]=true→¬Made es ar aw i)→∃s ej,s ∈ ei∧q≤s∧s≤N∧(∀k o,ops[k]? =some o→dU P o=true→q≤posOf aw k→s≤posOf aw k)∧Holds aq ej es ar aw (jK ops es ar aw listed s)∧a1 ej E (b2 es ar s) w:=by
      intro vT mx
      rw [←r3] at vT
      refine fin F (H.congr fun k=>⟨?_,?_⟩) (by rw [vT];exact S)
      · rintro ⟨o,au,az,aM,bU⟩
        refine ⟨o,au,az,aM,?_⟩
        have:posOf aw k≠q:=fun e=>by
         have:=only k o au e
         subst this
         rw [cb] at au;cases au
         exact mx az.1 az.2
        omega
      · rintro ⟨o,au,az,aM,bU⟩
        exact ⟨o,au,az,aM,by omega⟩
     cases bd:gw ops[i] with
     | true=>
      rcases Kg bd ae with ⟨cV,bX,b'⟩ | ⟨bX,_⟩
      ·
       have aO:=S.hold cV
       have aS:nameAt es ar aw i=ai (b2 es ar q).next:=by unfold nameAt;rw [ju]
       have ah:xu es ar aw i=cV:=by
        unfold xu
        rw [aS,ju,bX,r3,af.h1,if_pos rfl]
       rw [r3,←bX] at aO
       have Xw:Made es ar aw i:=by
        unfold Made
        rw [ju,bX,r3]
        exact Nat.succ_ne_self _
       have pS:¬listed.getD i false=true:=r6 i _ cb bd (by omega)
       have Es:∀k,jK ops es ar aw listed (q+1) k→k=i∨jK ops es ar aw listed q k:=by
        rintro k ⟨o,au,az,aM,bU⟩
        by_cases Ba:posOf aw k=q
        · exact .inl (only k o au Ba)
        · exact .inr ⟨o,au,az,aM,by omega⟩
       have fresh:∀b wg,F.c6 b=some wg→b≠nameAt es ar aw i:=by
        intro b wg pJ heq
        obtain ⟨_,_,j,yq,ua⟩:=S.o9 b wg pJ
        rw [heq,aS] at ua
        rw [r3] at yq ua
        have:=dR ua
        omega
       have Mi:∀b,b≠nameAt es ar aw i→(F.hold (ai e.h.next) cV).c6 b=F.c6 b:=by
        intro b Li
        rw [aS,r3] at Li
        simp only [Fr.hold,if_neg Li]
       have RG:(F.hold (ai e.h.next) cV).c6 (nameAt es ar aw i)=some cV:=by
        rw [aS,r3]
        simp only [Fr.hold,if_true]
       have ne:∀k,jK ops es ar aw listed q k→nameAt es ar aw k≠nameAt es ar aw i:=fun k ay=>fresh _ _ (H.new k ay).1
       refine fin (F.hold (ai e.h.next) cV) ⟨H.w,fun b pJ=>?_,fun k ay=>?_,fun k bp ay hA he=>?_⟩ aO
       · have tu:b≠nameAt es ar aw i:=fun e=>pJ i ⟨_,cb,⟨bd,Xw⟩,pS,by omega⟩ e.symm
         rw [Mi b tu]
         exact H.bY b fun k ay=>pJ k (by obtain ⟨o,au,az,aM,bU⟩:=ay;exact ⟨o,au,az,aM,by omega⟩)
       · rcases Es k ay with rfl | ay
         · refine ⟨by rw [RG,ah],?_⟩
           cases ag:aq.c6 (nameAt es ar aw k) with
           | none=>rfl
           | some wg=>
             exfalso
             have:=H.bY (nameAt es ar aw k) fun bp hA=>ne bp hA
             rw [ag] at this
             exact fresh _ _ this rfl
         · rw [Mi _ (ne k ay)]
           exact H.new k ay
       · rcases Es k ay with rfl | ay<;>rcases Es bp hA with rfl | hA
         · rfl
         · exact absurd he.symm (ne bp hA)
         · exact absurd he (ne k ay)
         · exact H.inj k bp ay hA he
      · refine pass bX fun _ hm=>hm ?_
        rw [ju,bX,r3]
     | false=>
       have dJ:eP P ops[i].op=false:=by
        unfold dU at lK
        rw [bd] at lK
        simpa using lK
       exact pass (tb dJ ae).1 fun h=>by rw [bd] at h;cases h
structure ph (P:Program) (aq:Fr) (al:Nat) (ops:Array Oper) (es:List eM) (bQ:bt) (ar:af) (ei aw:List Nat) (gA:Env) (N:Nat) (D:List Deferred) (listed:Array Bool) (a:Act) (w:World):Prop where
 q3:listed.size=ops.size
 size:a.tmps.size=al
 defers:a.defers=D
 rN:∀k,listed.getD k false=true→posOf aw k<N
 down:pk ops fun k=>listed.getD k false=true
 main:∃E s F,gA.le E∧s ∈ ei∧s≤N∧(∀k o,ops[k]? =some o→dU P o=true→(listed.getD k false=true↔posOf aw k<s))∧
  (∀k o,ops[k]? =some o→gw o=true→listed.getD k false=true→posOf aw k<s)∧Holds aq F es ar aw (jK ops es ar aw listed s)∧a1 F E (b2 es ar s) w∧
  ∀t,t≤top→(∃k o e,listed.getD k false=true∧ops[k]? =some o∧o.dst=some t∧es[posOf aw k]? =some e∧Rel E e.v (a.tmps.getD t undef))∨
   ((∀k o,listed.getD k false=true→ops[k]? =some o→o.dst≠some t)∧Rel E (T.get .bad (ai t) bQ) (a.tmps.getD t undef))
theorem rW {l:Array Bool} {i:Nat}:l.getD i false=true↔l[i]? =some true:=by
 rw [Array.getD_eq_getD_getElem?]
 cases l[i]? with
 | none=>simp
 | some b=>cases b<;>simp
theorem fx {l:Array Bool} {i k:Nat} (aF:i<l.size):(l.setIfInBounds i true).getD k false=true↔(k=i∨l.getD k false=true):=by
 rw [rW,rW,Array.getElem?_setIfInBounds]
 by_cases h:i=k
 · subst h;simp [aF]
 · have:¬k=i:=fun e=>h e.symm
   simp [h,this]
theorem Aq {r:bt} {t:Nat} (ax:t≤top):∀{l:List Oper},T.get .bad (ai t) (nK r l)=.bad∨(T.get .bad (ai t) (nK r l)=T.get .bad (ai t) r∧∀o ∈ l,o.dst≠some t)
 | []=>.inr ⟨rfl,fun o aQ=>by simp at aQ⟩
 | o::os=>by
   simp only [nK]
   cases aX:o.dst with
   | none=>
     simp only
     rcases Aq (r:=r) ax (l:=os) with h | ⟨aa,ae⟩
     · exact .inl h
     · exact .inr ⟨aa,fun b1 hn=>by
        rcases List.mem_cons.1 hn with rfl | hn
        · rw [aX];simp
        · exact ae b1 hn⟩
   | some d=>
     simp only
     cases ah:Nat.ble d top with
     | true=>
       simp only [cond_true]
       rw [T.hM]
       by_cases tz:d=t
       · subst tz;rw [if_pos rfl];exact .inl rfl
       · rw [if_neg (fun e=>tz (dR e))]
         rcases Aq (r:=r) ax (l:=os) with h | ⟨aa,ae⟩
         · exact .inl h
         · exact .inr ⟨aa,fun b1 hn=>by
            rcases List.mem_cons.1 hn with rfl | hn
            · rw [aX];simpa using tz
            · exact ae b1 hn⟩
     | false=>
       simp only [cond_false]
       have tz:d≠t:=fun e=>by subst e;rw [←Nat.ble_eq] at ax;rw [ax] at ah;cases ah
       rcases Aq (r:=r) ax (l:=os) with h | ⟨aa,ae⟩
       · exact .inl h
       · exact .inr ⟨aa,fun b1 hn=>by
          rcases List.mem_cons.1 hn with rfl | hn
          · rw [aX];simpa using tz
          · exact ae b1 hn⟩
theorem Ap {r:bt}:∀{l:List Oper},T.get .bad eN (nK r l)=T.get .bad eN r
 | []=>rfl
 | o::os=>by
   simp only [nK]
   cases aX:o.dst with
   | none=>exact Ap
   | some d=>
     simp only
     cases ah:Nat.ble d top with
     | true=>
       simp only [cond_true]
       rw [T.hM,if_neg (uo (Nat.le_of_ble_eq_true ah))]
       exact Ap
     | false=>exact Ap
theorem Km {rd:Option Nat} {D:List Deferred} {aq:Fr} (bD:eI P) (cD:∀i,gz P (calls i)) (de:∀i,gN P (calls i)) (C:Cert P al ops calls es bQ a6 cL ar ei order aw N M lit) {gA:Env} {listed:Array Bool} {a:Act} {w:World} (I:ph P aq al ops es bQ ar ei aw gA N D listed a w)
 {i:Nat} (aF:i ∈ Region.ready .any ops listed) (Xe:posOf aw i<M) (tG:lit=true→∀o k ok,ops[i]? =some o→kJ o=true→ops[k]? =some ok→kJ ok=true→posOf aw k<posOf aw i→listed.getD k false=true) {Q:Exit→Act→World→Prop} {K:Act→World→Prop} (dH:∀bh aj,ph P aq al ops es bQ ar ei aw gA N D (listed.setIfInBounds i true) bh aj→K bh aj)
 (c2:∀an bh aj x v ab,gA.le an→N<ops.size→ops.size≤M→(∃i0 iq,ops[i0]? =some iq∧posOf aw i0=N∧(ck P al ops iq).run (calls i0) cL ar=.cv v ab)→RegRel0 an al (nK bQ ops.toList) bh→bh.defers=D→Rel an v x→a1 aq an ab aj→Q (.panic (o7 x)) bh aj):wpOpIn (ca rd) 0 P ops Q i K a w:=by
 rw [mem_ready] at aF
 obtain ⟨E,s,F,lJ,aO,Bf,lM,ev,jV,pV,tS⟩:=I.main
 obtain ⟨r6,o,cb,tA⟩:=aF
 have gu:i<ops.size:=(Array.getElem?_eq_some_iff.1 cb).1
 have r7:¬listed.getD i false=true:=by
  rw [rW]
  intro h
  rw [Array.getD_eq_getD_getElem?,h] at r6
  simp at r6
 have LF:=yD I.down ops.toList [] (fun j=>by simp) (fun k m j ay=>by simp at ay)
 have vt:pk ops fun k=>listed.getD k false=true∨k=i:=by
  intro k ok e ay bA he ah
  rcases ay with ay | rfl
  · exact .inl (I.down k ok e ay bA he ah)
  · rw [cb] at bA;cases bA
    exact .inl (tA e (Array.mem_toList_iff.1 he) (by rw [u6];exact ah))
 have Xv:=yD vt ops.toList [] (fun j=>by simp) (fun k m j ay=>by simp at ay)
 obtain ⟨cy,lO,h5,A_⟩:=C.ml i o cb
 have A_:=A_ Xe
 have E8:=C.BP
 have xO:∀k,k≠i→fF cy k=true→listed.getD k false=true:=by
  intro k ay ah
  rcases Xv i cy k lO ah (.inr rfl) with h | h
  · exact h
  · exact absurd h ay
 have jv:=(C.hR i gu).1
 have XM:posOf aw i≤N:=by
  rcases Nat.lt_or_ge N (posOf aw i) with Xa | hle
  · exfalso
    have AQ:ops.size≤M:=by
     rcases Nat.lt_or_ge M ops.size with h | h
     · have:=(C.tail h).1;omega
     · exact h
    obtain ⟨i0,iq,m0,cm,z2,z3,z4,z5,_⟩:=C.stop (by omega) AQ
    have ah:=z5 i o cy cb Xa lO
    have aa:=xO i0 (fun e=>by subst e;omega) ah
    have:=I.rN i0 aa
    omega
  · exact hle
 have uniq:∀(k bp:Nat) (ok kl:Oper) (t:Nat),ops[k]? =some ok→ops[bp]? =some kl→posOf aw k<M→posOf aw bp<M→ok.dst=some t→kl.dst=some t→k=bp:=by
  intro k bp ok kl t aa ae cx cn aH bf
  obtain ⟨mk,_,_,ag⟩:=C.ml k ok aa
  obtain ⟨mk',_,hN,_⟩:=ag cx bp kl ae cn
  unfold oe at hN
  rw [hL] at hN
  by_cases jW:k=bp
  · exact jW
  · rw [if_neg jW,bf,aH] at hN
    simp at hN
 have OE:kq (bZ ops o)=true→∀t ∈ bZ ops o,Rel E (T.get .bad (ai t) (dY es cL (posOf aw i))) (a.tmps.getD t undef):=by
  intro L1 t ax
  have vX:t≤top:=by
   have:=List.all_eq_true.1 L1 t ax
   exact Nat.le_of_ble_eq_true this
  have NN:∀(k:Nat) (ok:Oper),k≠i→posOf aw k<M→ops[k]? =some ok→ok.dst=some t→∃mk,(eF [] ops.toList)[k]? =some mk∧(posOf aw k<posOf aw i→fF cy k=true)∧(¬posOf aw k<posOf aw i→fF mk i=true):=by
   intro k ok ay FE bA aX
   obtain ⟨mk,au,az,_⟩:=A_ k ok bA FE
   refine ⟨mk,au,?_⟩
   unfold oe at az
   rw [hL,if_neg (fun e=>ay e.symm),aX] at az
   simp only [Bool.and_eq_true] at az
   have aM:=az.1
   rw [show (bZ ops o).contains t=true from by simpa using ax] at aM
   simp only [cond_true] at aM
   refine ⟨fun aW=>?_,fun js=>?_⟩
   · rw [show Nat.blt (posOf aw k) (posOf aw i)=true from by rw [Nat.blt_eq];exact aW] at aM
     exact aM
   · rw [show Nat.blt (posOf aw k) (posOf aw i)=false from by rw [←Bool.not_eq_true,Nat.blt_eq];exact js] at aM
     exact aM
  rcases C.HG (posOf aw i) XM t vX with ⟨k,ok,Al,au,az,aM,bU,ey⟩ | ⟨au,az⟩
  · obtain ⟨mk,_,bC,_⟩:=NN k ok (fun e=>by subst e;omega) (by omega) az aM
    have qN:=xO k (fun e=>by subst e;omega) (bC au)
    rcases tS t vX with ⟨bp,kl,EJ,bu,bB,dP,kP,sn⟩ | ⟨bu,_⟩
    · have:=uniq k bp ok kl t az bB (by omega) (by have:=I.rN bp bu;omega) aM dP
      subst this
      rw [bU] at kP;cases kP
      rw [ey];exact sn
    · exact absurd aM (bu k ok qN az)
  · rcases tS t vX with ⟨bp,kl,EJ,bu,bB,dP,kP,sn⟩ | ⟨_,bB⟩
    · have gv:bp≠i:=fun e=>r7 (e ▸ bu)
      obtain ⟨mk,m1,_,bR⟩:=NN bp kl gv (by have:=I.rN bp bu;omega) bB dP
      by_cases aW:posOf aw bp<posOf aw i
      · exact absurd dP (au bp kl aW bB)
      · exact absurd (LF bp mk i m1 (bR aW) bu) r7
    · rw [az];exact bB
 have level:eP P o.op=true→s≤posOf aw i→s=posOf aw i∧gw o=false:=by
  intro k6 hle
  rcases C.Ps s aO with (h | ⟨h,AP⟩) | ⟨k,ok,bX,b',gG⟩
  · omega
  · omega
  · have LL:¬listed.getD k false=true:=fun h=>by have:=(lM k ok bX b').1 h;omega
    have nR:=(Array.getElem?_eq_some_iff.1 bX).1
    by_cases gv:k=i
    · subst gv
      rw [cb] at bX;cases bX
      refine ⟨gG,?_⟩
      unfold dU at b'
      simpa [k6] using b'
    · have aW:posOf aw k<posOf aw i:=by
       have:posOf aw k≠posOf aw i:=fun e=>gv (C.ur nR gu e)
       omega
      obtain ⟨mk,_,_,aM⟩:=A_ k ok bX (by omega)
      rcases aM k6 b' aW with h | ⟨g1,g2,g3⟩
      · exact absurd (xO k gv h) LL
      · exact absurd (tG g1 o k ok cb g2 bX g3 aW) LL
 rcases Nat.lt_or_ge (posOf aw i) N with FN | agc
 case inr=>
  have iP:posOf aw i=N:=by omega
  have AQ:ops.size≤M:=by
   rcases Nat.lt_or_ge M ops.size with h | h
   · have:=(C.tail h).1;omega
   · exact h
  obtain ⟨i0,iq,m0,cm,z2,z3,z4,z5,afy,v,ab,Iy⟩:=C.stop (by omega) AQ
  have Xg:i0=i:=C.ur (Array.getElem?_eq_some_iff.1 cm).1 gu (by rw [z2,iP])
  subst Xg
  rw [cb] at cm;cases cm
  rw [lO] at z4;cases z4
  obtain ⟨k6,XA⟩:=Ng z3
  have vz:dU P o=true:=by unfold dU;rw [k6,XA];rfl
  have Ge:s≤posOf aw i0:=by
   rcases Nat.lt_or_ge (posOf aw i0) s with h | h
   · exact absurd ((lM i0 o cb vz).2 h) r7
   · exact h
  have vU:=(level k6 Ge).1
  have jS:F=aq:=jV.none fun k ay=>by
   obtain ⟨ok,au,az,aM,bU⟩:=ay
   have gv:k≠i0:=fun e=>by subst e;omega
   exact aM (xO k gv (afy k ok au az.1 (by omega)))
  subst jS
  have cZ:es[N]? =none:=List.getElem?_eq_none (by rw [C.len];exact Nat.le_refl _)
  have kg:=OE (Ke Iy).2
  rw [iP] at kg
  simp only [dY,cZ] at kg
  rw [vU,iP] at pV
  simp only [b2,cZ] at pV
  refine UU bD (cD i0) (de i0) cb Iy z3 I.size kg pV fun an x aj au az aM=>c2 an a aj x v ab (lJ.trans au) (by omega) AQ ⟨i0,o,cb,iP,Iy⟩ ⟨I.size,fun t ax=>?_⟩ I.defers az aM
  rcases Aq (r:=bQ) ax (l:=ops.toList) with h | ⟨aa,ae⟩
  · rw [h];simp [Rel]
  · rw [aa]
    rcases tS t ax with ⟨k,ok,Al,bu,bB,dP,kP,sn⟩ | ⟨bu,bB⟩
    · exact absurd dP (ae ok (by rw [←Array.getElem?_toList] at bB;exact List.mem_of_getElem? bB))
    · exact Rel.mono au _ _ bB
 obtain ⟨e,nO,cK,agm⟩:=C.step i o cb FN
 have g':=j_ cK
 have fl:dY es cL (posOf aw i)=e.r:=by simp [dY,nO]
 have jt:b2 es ar (posOf aw i)=e.h:=by simp [b2,nO]
 have reads:=OE g'.2
 rw [fl] at reads
 have fW:i<listed.size:=by rw [I.q3];exact gu
 have after:∀(fY:Nat) (ej:Fr) (an:Env) (x:Value) (aj:World),fY ∈ ei→fY≤N→(∀k ok,ops[k]? =some ok→dU P ok=true→((k=i∨listed.getD k false=true)↔posOf aw k<fY))→
  (∀k ok,ops[k]? =some ok→gw ok=true→(k=i∨listed.getD k false=true)→posOf aw k<fY)→
  Holds aq ej es ar aw (jK ops es ar aw (listed.setIfInBounds i true) fY)→E.le an→Rel an e.v x→a1 ej an (b2 es ar fY) aj→
  ph P aq al ops es bQ ar ei aw gA N D (listed.setIfInBounds i true) (a.put o.dst x) aj:=by
  intro fY ej an x aj iQ X4 hl Wy Xb hle ak X3
  refine ⟨by simp [I.q3],by cases h:o.dst<;>simp [Act.put,I.size],by cases h:o.dst<;>simp [Act.put,I.defers],fun k ay=>by
   rcases (fx fW).1 ay with rfl | ay
   · exact FN
   · exact I.rN k ay,?_,an,fY,ej,lJ.trans hle,iQ,X4,fun k ok aa ae=>by rw [fx fW];exact hl k ok aa ae,
   fun k ok aa ae aH=>Wy k ok aa ae ((fx fW).1 aH),Xb,X3,fun t ax=>?_⟩
  · intro k ok c_ ay bA eE ah
    rw [fx fW] at ay ⊢
    rcases vt k ok c_ ay.symm bA eE ah with h | h
    · exact .inr h
    · exact .inl h
  · by_cases aX:o.dst=some t
    · refine .inl ⟨i,o,e,by rw [fx fW];exact .inl rfl,cb,aX,nO,?_⟩
      have aW:t<a.tmps.size:=by
       have:=g'.1
       rw [aX] at this
       simp only [fe,Bool.and_eq_true,Nat.blt_eq] at this
       rw [I.size];exact this.1
      rw [aX]
      simp only [Act.put]
      rw [Array.getD_eq_getD_getElem?,Array.getElem?_setIfInBounds,if_pos rfl,if_pos aW]
      exact ak
    · have dN:(a.put o.dst x).tmps.getD t undef=a.tmps.getD t undef:=by
       cases XH:o.dst with
       | none=>rfl
       | some d=>
         simp only [Act.put]
         rw [Array.getD_eq_getD_getElem?,Array.getD_eq_getD_getElem?,Array.getElem?_setIfInBounds,if_neg (fun e=>aX (by rw [XH,e]))]
      rw [dN]
      rcases tS t ax with ⟨k,ok,Al,bu,bB,dP,kP,sn⟩ | ⟨bu,bB⟩
      · exact .inl ⟨k,ok,Al,by rw [fx fW];exact .inr bu,bB,dP,kP,Rel.mono hle _ _ sn⟩
      · refine .inr ⟨fun k ok ay bA=>?_,Rel.mono hle _ _ bB⟩
        rw [fx fW] at ay
        rcases ay with rfl | ay
        · rw [cb] at bA;cases bA;exact aX
        · exact bu k ok ay bA
 have Fp:¬(gw o=true∧Made es ar aw i)→∀fY k,jK ops es ar aw (listed.setIfInBounds i true) fY k↔jK ops es ar aw listed fY k:=by
  intro bd fY k
  constructor
  · rintro ⟨ok,au,az,aM,bU⟩
    exact ⟨ok,au,az,fun h=>aM ((fx fW).2 (.inr h)),bU⟩
  · rintro ⟨ok,au,az,aM,bU⟩
    refine ⟨ok,au,az,fun h=>?_,bU⟩
    rcases (fx fW).1 h with rfl | h
    · rw [cb] at au;cases au;exact bd az
    · exact aM h
 cases k6:eP P o.op with
 | true=>
   cases bd:gw o with
   | true=>
     have aW:posOf aw i<s:=by
      rcases Nat.lt_or_ge (posOf aw i) s with h | h
      · exact h
      · have:=(level k6 h).2
        rw [bd] at this;cases this
     by_cases hm:Made es ar aw i
     case neg=>
      have Gb:(ck P al ops o).run (calls i) e.r (b2 es ar s)=.val e.v (b2 es ar s):=by
       rcases Kg bd cK with ⟨cV,bX,_⟩ | ⟨_,bX⟩
       · exact absurd (show Made es ar aw i from by unfold Made;rw [bX,jt];exact Nat.succ_ne_self _) hm
       · exact bX _
      refine pz bD (cD i) (de i) cb Gb I.size reads pV fun an x aj au az aM=>dH _ _ (after s F an x aj aO Bf (fun k ok bA iN=>?_) (fun k ok bA oP ay=>?_) (jV.congr fun k=>Fp (fun h=>hm h.2) s k) au az aM)
      · constructor
        · rintro (rfl | h)
          · rw [cb] at bA;cases bA
            unfold dU at iN
            rw [bd] at iN
            simp at iN
          · exact (lM k ok bA iN).1 h
        · intro h
          exact .inr ((lM k ok bA iN).2 h)
      · rcases ay with rfl | ay
        · exact aW
        · exact ev k ok bA oP ay
     have kF:jK ops es ar aw listed s i:=⟨o,cb,⟨bd,hm⟩,r7,aW⟩
     have FP:(b2 es ar (posOf aw i+1)).next≠e.h.next:=by rw [←jt];exact hm
     have mx:nameAt es ar aw i=ai e.h.next:=by unfold nameAt;rw [jt]
     have lR:=(jV.new i kF).1
     have v7:=(jV.new i kF).2
     have jT:xu es ar aw i=(b2 es ar (posOf aw i+1)).get (ai e.h.next):=by unfold xu;rw [mx]
     rw [mx,jT] at lR
     refine US cb bd cK I.size reads pV FP lR fun an x aj au az aM=>dH _ _ (after s (F.free (ai e.h.next)) an x aj aO Bf (fun k ok bA iN=>?_) (fun k ok bA oP ay=>?_) ?_ au az aM)
     · constructor
       · rintro (rfl | h)
         · rw [cb] at bA;cases bA
           unfold dU at iN
           rw [bd] at iN
           simp at iN
         · exact (lM k ok bA iN).1 h
       · intro h
         exact .inr ((lM k ok bA iN).2 h)
     · rcases ay with rfl | ay
       · exact aW
       · exact ev k ok bA oP ay
     · have sub:∀k,jK ops es ar aw (listed.setIfInBounds i true) s k→jK ops es ar aw listed s k∧k≠i:=by
        rintro k ⟨ok,au,az,aM,bU⟩
        refine ⟨⟨ok,au,az,fun h=>aM ((fx fW).2 (.inr h)),bU⟩,fun e=>aM ((fx fW).2 (.inl e))⟩
       refine ⟨jV.w,fun b ah=>?_,fun k ay=>?_,fun k bp ay hA=>jV.inj k bp (sub k ay).1 (sub bp hA).1⟩
       · by_cases tu:b=ai e.h.next
         · subst tu
           simp only [Fr.free,if_true]
           rw [←mx,v7]
         · simp only [Fr.free,if_neg tu]
           refine jV.bY b fun k ay=>?_
           by_cases gv:k=i
           · subst gv;rw [mx];exact fun e=>tu e.symm
           · obtain ⟨ok,au,az,aM,bU⟩:=ay
             refine ah k ⟨ok,au,az,fun h=>?_,bU⟩
             rcases (fx fW).1 h with h | h
             · exact gv h
             · exact aM h
       · obtain ⟨Lw,gv⟩:=sub k ay
         have dJ:nameAt es ar aw k≠ai e.h.next:=fun e=>gv (jV.inj k i Lw kF (by rw [e,mx]))
         simp only [Fr.free,if_neg dJ]
         exact jV.new k Lw
   | false=>
     have vz:dU P o=true:=by unfold dU;rw [k6,bd];rfl
     have Ge:s≤posOf aw i:=by
      rcases Nat.lt_or_ge (posOf aw i) s with h | h
      · exact absurd ((lM i o cb vz).2 h) r7
      · exact h
     have vU:=(level k6 Ge).1
     rw [←jt,←vU] at cK
     refine pz bD (cD i) (de i) cb cK I.size reads pV fun an x aj au az aM=>?_
     rw [vU] at aM
     have Xt:∀k ok,ops[k]? =some ok→gw ok=true→posOf aw i+1≤posOf aw k→¬(listed.setIfInBounds i true).getD k false=true:=by
      intro k ok bA oP ag h
      rcases (fx fW).1 h with rfl | h
      · omega
      · have:=ev k ok bA oP h
        omega
     have Xd:Holds aq F es ar aw (jK ops es ar aw (listed.setIfInBounds i true) (posOf aw i+1)):=by
      refine jV.congr fun k=>?_
      rw [Fp (fun h=>by rw [bd] at h;cases h.1)]
      constructor
      · rintro ⟨ok,cm,z2,z3,z4⟩
        refine ⟨ok,cm,z2,z3,?_⟩
        have nR:=(Array.getElem?_eq_some_iff.1 cm).1
        have:posOf aw k≠posOf aw i:=fun e=>by
         have:=C.ur nR gu e
         subst this
         rw [cb] at cm;cases cm
         rw [bd] at z2;cases z2.1
        omega
      · rintro ⟨ok,cm,z2,z3,z4⟩
        exact ⟨ok,cm,z2,z3,by omega⟩
     obtain ⟨fY,ej,g1,g2,g3,g4,g5,g6⟩:=C.advance (N - (posOf aw i+1)) (posOf aw i+1) (by omega) Xt F Xd aM
     refine dH _ _ (after fY ej an x aj g1 g3 (fun k ok bA iN=>?_) (fun k ok bA oP ay=>?_) g5 au az g6)
     · have nR:=(Array.getElem?_eq_some_iff.1 bA).1
       constructor
       · rintro (rfl | h)
         · omega
         · have:=(lM k ok bA iN).1 h
           omega
       · intro h
         by_cases gv:k=i
         · exact .inl gv
         · refine .inr ((lM k ok bA iN).2 ?_)
           rcases Nat.lt_or_ge (posOf aw k) s with ba | ba
           · exact ba
           · have dJ:posOf aw k≠posOf aw i:=fun e=>gv (C.ur nR gu e)
             have:=g4 k ok bA iN (by omega)
             omega
     · rcases ay with rfl | ay
       · omega
       · have:=ev k ok bA oP ay
         omega
 | false=>
   have bd:gw o=false:=by
    cases h:gw o with
    | false=>rfl
    | true=>rw [YH h] at k6;cases k6
   obtain ⟨c,aD,Gb⟩:∃c,(gz P c∧gN P c)∧(ck P al ops o).run c e.r (b2 es ar s)=.val e.v (b2 es ar s):=by
    cases eK:looks o.op with
    | false=>exact ⟨_,⟨cD i,de i⟩,(tb k6 cK).2 eK _⟩
    | true=>
      obtain ⟨c_,au,az⟩:=C.ask i o cb eK k6 FN
      rw [nO] at au;cases au
      obtain ⟨c,ab,aD,aM⟩:=az s aO (Iz (by rw [GW];simp) fun k mk ok aa ae=>by
       simp only [Nat.zero_add]
       have bA:ops[k]? =some ok:=by simpa using ae
       cases tH:dU P ok with
       | false=>rfl
       | true=>
         simp only [cond_true]
         cases pQ:Nat.blt (posOf aw k) s with
         | true=>
           rw [Nat.blt_eq] at pQ
           simp only [cond_true,Bool.not_eq_true']
           cases ah:fF mk i with
           | false=>rfl
           | true=>exact absurd (LF k mk i aa ah ((lM k ok bA tH).2 pQ)) r7
         | false=>
           have Xp:¬posOf aw k<s:=by rw [←Nat.blt_eq,pQ];simp
           simp only [cond_false,Bool.not_eq_true',lO,Option.getD_some]
           cases ah:fF cy k with
           | false=>rfl
           | true=>
             by_cases gv:k=i
             · subst gv
               rw [cb] at bA;cases bA
               unfold dU at tH
               rw [k6] at tH;cases tH
             · exact absurd ((lM k ok bA tH).1 (xO k gv ah)) Xp)
      rw [(tb k6 aM).1] at aM
      exact ⟨c,aD,aM⟩
   refine pz bD aD.1 aD.2 cb Gb I.size reads pV fun an x aj au az aM=>dH _ _ (after s F an x aj aO Bf (fun k ok bA iN=>?_) (fun k ok bA oP ay=>?_) (jV.congr fun k=>Fp (fun h=>by rw [bd] at h;cases h.1) s k) au az aM)
   · constructor
     · rintro (rfl | h)
       · rw [cb] at bA;cases bA
         unfold dU at iN
         rw [k6] at iN;cases iN
       · exact (lM k ok bA iN).1 h
     · intro h
       exact .inr ((lM k ok bA iN).2 h)
   · rcases ay with rfl | ay
     · rw [cb] at bA;cases bA;rw [bd] at oP;cases oP
     · exact ev k ok bA oP ay
theorem Kc {D:List Deferred} {aq:Fr} (C:Cert P al ops calls es bQ a6 cL ar ei order aw N M lit) {gA:Env} (E8:N≤M) {listed:Array Bool} {a:Act} {w:World} (I:ph P aq al ops es bQ ar ei aw gA N D listed a w)
 (ev:∀k,k<ops.size→posOf aw k<N→listed.getD k false=true):∃an,gA.le an∧RegRel0 an al cL a∧a.defers=D∧a1 aq an ar w:=by
 obtain ⟨E,s,F,lJ,aO,Bf,lM,_,jV,pV,tS⟩:=I.main
 have cZ:es[N]? =none:=List.getElem?_eq_none (by rw [C.len];exact Nat.le_refl _)
 have pO:b2 es ar N=ar:=by simp [b2,cZ]
 have LX:dY es cL N=cL:=by simp [dY,cZ]
 have vU:s=N:=by
  rcases C.Ps s aO with (h | ⟨h,_⟩) | ⟨k,ok,bX,b',gG⟩
  · have:=C.yJ;omega
  · exact h
  · rcases Nat.lt_or_ge s N with aW | js
    · have:=(lM k ok bX b').1 (ev k (Array.getElem?_eq_some_iff.1 bX).1 (by omega))
      omega
    · omega
 subst vU
 have jS:F=aq:=jV.none fun k ay=>by
  obtain ⟨ok,au,az,aM,bU⟩:=ay
  exact aM (ev k (Array.getElem?_eq_some_iff.1 au).1 bU)
 subst jS
 rw [pO] at pV
 have AP:∀k,posOf aw k<s→posOf aw k<M:=fun k h=>by omega
 refine ⟨E,lJ,⟨I.size,fun t ax=>?_⟩,I.defers,pV⟩
 have X_:∀(k bp:Nat) (ok kl:Oper),ops[k]? =some ok→ops[bp]? =some kl→posOf aw k<s→posOf aw bp<s→ok.dst=some t→kl.dst=some t→k=bp:=by
  intro k bp ok kl aa ae cx cn aH bf
  obtain ⟨mk,_,_,ag⟩:=C.ml k ok aa
  obtain ⟨mk',_,hN,_⟩:=ag (AP k cx) bp kl ae (AP bp cn)
  unfold oe at hN
  rw [hL] at hN
  by_cases jW:k=bp
  · exact jW
  · rw [if_neg jW,bf,aH] at hN
    simp at hN
 rcases C.HG s (Nat.le_refl _) t ax with ⟨k,ok,Al,au,az,aM,bU,ey⟩ | ⟨au,az⟩
 · rw [LX] at ey
   rcases tS t ax with ⟨bp,kl,EJ,bu,bB,dP,kP,sn⟩ | ⟨bu,_⟩
   · have:=X_ k bp ok kl az bB au (I.rN bp bu) aM dP
     subst this
     rw [bU] at kP;cases kP
     rw [ey];exact sn
   · exact absurd aM (bu k ok (ev k (Array.getElem?_eq_some_iff.1 az).1 au) az)
 · rw [LX] at az
   rcases tS t ax with ⟨bp,kl,EJ,bu,bB,dP,kP,sn⟩ | ⟨_,bB⟩
   · exact absurd dP (au bp kl (I.rN bp bu) bB)
   · rw [az];exact bB
theorem Kl {rd:Option Nat} {D:List Deferred} {aq:Fr} (bD:eI P) (cD:∀i,gz P (calls i)) (de:∀i,gN P (calls i)) (C:Cert P al ops calls es bQ a6 cL ar ei order aw N M false) {gA:Env} {Q:Exit→Act→World→Prop}
 (c2:N=ops.size→∀an bh aj,gA.le an→RegRel0 an al cL bh→bh.defers=D→a1 aq an ar aj→Q .normal bh aj)
 (h2:∀an bh aj x v ab,gA.le an→N<ops.size→ops.size≤M→(∃i0 iq,ops[i0]? =some iq∧posOf aw i0=N∧(ck P al ops iq).run (calls i0) cL ar=.cv v ab)→RegRel0 an al (nK bQ ops.toList) bh→bh.defers=D→Rel an v x→a1 aq an ab aj→Q (.panic (o7 x)) bh aj)
 (d_:M<ops.size→∀(fuel:Nat) (listed:Array Bool) an bh aj,(List.range ops.size).countP (fun i=>!listed.getD i false)≤fuel→listed.size=ops.size→pk ops (fun k=>listed.getD k false=true)→(∀k,k<ops.size→(listed.getD k false=true↔posOf aw k<N))→
   gA.le an→RegRel0 an al cL bh→bh.defers=D→a1 aq an ar aj→wpAnyIn (ca rd) 0 P .any ops Q fuel listed bh aj):∀(fuel:Nat) (listed:Array Bool) (a:Act) (w:World),(List.range ops.size).countP (fun i=>!listed.getD i false)≤fuel→
 ph P aq al ops es bQ ar ei aw gA N D listed a w→wpAnyIn (ca rd) 0 P .any ops Q fuel listed a w:=by
 have done:∀(listed:Array Bool) (a:Act) (w:World),ph P aq al ops es bQ ar ei aw gA N D listed a w→Region.ready .any ops listed=[]→∀i,i<ops.size→listed.getD i false=true:=by
  intro listed a w I aG i
  induction i using Nat.strongRecOn with
  | _ i bj=>
    intro aF
    cases fW:listed.getD i false with
    | true=>rfl
    | false=>
      exfalso
      have cb:ops[i]? =some ops[i]:=Array.getElem?_eq_getElem aF
      obtain ⟨cy,_,h5,_⟩:=C.ml i _ cb
      have:i ∈ Region.ready .any ops listed:=by
       rw [mem_ready]
       refine ⟨?_,ops[i],cb,fun e he ah=>?_⟩
       · have cc:i<listed.size:=by rw [I.q3];exact aF
         rw [Array.getD_eq_getD_getElem?,Array.getElem?_eq_getElem cc] at fW ⊢
         exact fW
       · have aa:=List.all_eq_true.1 h5 e (Array.mem_toList_iff.2 he)
         rw [u6] at ah
         rw [ah] at aa
         simp only [Bool.not_true,Bool.false_or,Nat.blt_eq] at aa
         exact bj e.on aa (by omega)
      rw [aG] at this
      simp at this
 have E8:=C.BP
 have full:∀(listed:Array Bool) (a:Act) (w:World),ph P aq al ops es bQ ar ei aw gA N D listed a w→(∀k,k<ops.size→posOf aw k<N→listed.getD k false=true)→(N=ops.size∨(M<ops.size∧M=N))→
  ∃an,gA.le an∧RegRel0 an al cL a∧a.defers=D∧a1 aq an ar w:=fun _ _ _ I ev _=>Kc C E8 I ev
 have finish:∀(listed:Array Bool) (a:Act) (w:World),ph P aq al ops es bQ ar ei aw gA N D listed a w→Region.ready .any ops listed=[]→Q .normal a w:=by
  intro listed a w I aG
  have ev:=done listed a w I aG
  have E9:N=ops.size:=by
   rcases Nat.lt_or_ge N ops.size with aW | js
   · exfalso
     obtain ⟨i,xU,nc⟩:=C.kO N aW
     have:=I.rN i (ev i xU)
     omega
   · exact Nat.le_antisymm C.yJ js
  obtain ⟨an,g1,g2,g3,g4⟩:=full listed a w I (fun k ay _=>ev k ay) (.inl E9)
  exact c2 E9 an a w g1 g2 g3 g4
 intro fuel
 induction fuel with
 | zero=>
   intro listed a w aD I
   have ev:∀i,i<ops.size→listed.getD i false=true:=by
    intro i aF
    have a6:(List.range ops.size).countP (fun i=>!listed.getD i false)=0:=by omega
    rw [List.countP_eq_zero] at a6
    simpa using a6 i (List.mem_range.2 aF)
   have aG:Region.ready .any ops listed=[]:=by
    cases av:Region.ready .any ops listed with
    | nil=>rfl
    | cons j YP=>
      exfalso
      have bK:j ∈ Region.ready .any ops listed:=by rw [av];simp
      rw [mem_ready] at bK
      obtain ⟨aa,o,ae,_⟩:=bK
      have:=ev j (Array.getElem?_eq_some_iff.1 ae).1
      rw [rW] at this
      rw [Array.getD_eq_getD_getElem?,this] at aa
      simp at aa
   exact ⟨aG,finish listed a w I aG⟩
 | succ fuel bj=>
   intro listed a w aD I
   by_cases Bh:M<ops.size∧∀k,k<ops.size→posOf aw k<N→listed.getD k false=true
   · obtain ⟨ts,ev⟩:=Bh
     obtain ⟨an,g1,g2,g3,g4⟩:=full listed a w I ev (.inr ⟨ts,(C.tail ts).1⟩)
     exact d_ ts (fuel+1) listed an a w aD I.q3 I.down (fun k ay=>⟨I.rN k,ev k ay⟩) g1 g2 g3 g4
   have x':∀i,i ∈ Region.ready .any ops listed→posOf aw i<M:=by
    intro i aF
    have nc:=aF
    rw [mem_ready] at nc
    obtain ⟨aa,o,ae,tA⟩:=nc
    have gu:i<ops.size:=(Array.getElem?_eq_some_iff.1 ae).1
    rcases Nat.lt_or_ge M ops.size with ts | ts
    · obtain ⟨AP,vV⟩:=C.tail ts
      rcases Nat.lt_or_ge (posOf aw i) N with aW | js
      · omega
      · exfalso
        refine Bh ⟨ts,fun k ay FF=>?_⟩
        obtain ⟨cy,lO,_⟩:=C.ml i o ae
        have ah:=vV i o cy ae js lO k ay FF
        have vt:pk ops fun k=>listed.getD k false=true∨k=i:=by
         intro k ok e ay bA he ah
         rcases ay with ay | rfl
         · exact .inl (I.down k ok e ay bA he ah)
         · rw [ae] at bA;cases bA
           exact .inl (tA e (Array.mem_toList_iff.1 he) (by rw [u6];exact ah))
        rcases yD vt ops.toList [] (fun j=>by simp) (fun k m j ay=>by simp at ay) i cy k lO ah (.inr rfl) with h | h
        · exact h
        · subst h;omega
    · have:=(C.hR i gu).1
      omega
   refine ⟨fun aG=>finish listed a w I aG,fun i aF=>?_⟩
   refine Km bD cD de C I aF (x' i aF) (fun h=>by cases h) (fun bh aj CU=>bj _ bh aj ?_ CU) h2
   have nc:=aF
   rw [mem_ready] at nc
   obtain ⟨aa,o,ae,_⟩:=nc
   have gu:i<ops.size:=(Array.getElem?_eq_some_iff.1 ae).1
   have fW:i<listed.size:=by rw [I.q3];exact gu
   have r7:listed.getD i false=false:=by
    rw [Array.getD_eq_getD_getElem?,Array.getElem?_eq_getElem fW] at aa ⊢
    exact aa
   have:=Ae (fun k=>!listed.getD k false) (fun k=>!(listed.setIfInBounds i true).getD k false) (List.range ops.size)
    (fun k _ ay=>by
      simp only [Bool.not_eq_true'] at ay ⊢
      cases av:listed.getD k false with
      | false=>rfl
      | true=>
        have:=(fx (k:=k) fW).2 (.inr av)
        rw [ay] at this
        cases this)
    ⟨i,List.mem_range.2 gu,by simp [r7],by
      have:=(fx (k:=i) fW).2 (.inl rfl)
      simp [this]⟩
   omega
theorem af.set_comm (h:af) {b bH:aN} (dJ:b≠bH) (k bp:b4):(h.set b k).set bH bp=(h.set bH bp).set b k:=by
 unfold af.set
 simp only
 rw [T.put_comm _ _ _ _ _ _ (fun e=>dJ e.symm)]
theorem Ia {o:Oper} {x:Operand} (h:rh o=some x):∃t y,o.op=.store t x y∧o.dst=none∧o.guard=none:=by
 unfold rh at h
 split at h
 case h_2=>cases h
 rename_i t Iu y aQ
 split at h
 case h_2=>cases h
 rename_i aX
 split at h
 case h_2=>cases h
 rename_i aE
 cases h
 exact ⟨t,y,aQ,aX,aE⟩
theorem aaK {h ab:af} {b:aN} {off:Nat} {ad:List V} (he:lay h b off ad=some ab):∃k,ab=h.set b k∧∀H:af,H.get b=h.get b→lay H b off ad=some (H.set b k):=by
 unfold lay at he ⊢
 cases aE:h.get b<;>rw [aE] at he<;>simp only [b4.on] at he<;>try (cases he;done)
 obtain ⟨aD,aa⟩:=en he
 cases aa
 refine ⟨_,rfl,fun H kF=>?_⟩
 rw [kF]
 simp only [b4.on,aD,cond_true]
theorem Ki {all:Array Oper} {o:Oper} {x:Operand} {call:dw} {r:bt} {h ab:af} {v:V} (ak:rh o=some x) (he:(ck P al all o).run call r h=.val v ab):
 ∃b off k,(bF x).run (dc r (bZ all o))=.ptr b off∧ab=h.set b k∧∀H:af,H.get b=h.get b→(ck P al all o).run call r H=.val v (H.set b k):=by
 obtain ⟨t,y,aQ,aX,aE⟩:=Ia ak
 obtain ⟨aa,ae⟩:=j_ he
 have key:ck P al all o=⟨iv none (fb P o) (bZ all o)⟩:=by
  unfold ck
  rw [show (fe al o.dst&&kq (bZ all o))=true from by rw [aa,ae];rfl,aE]
  rfl
 rw [key] at he ⊢
 simp only [iv] at he ⊢
 have tw:∀H,(fb P o).run call (dc r (bZ all o)) H=gI .bad ((rf P t).run H ((bF x).run (dc r (bZ all o))) ((bF y).run (dc r (bZ all o)))):=by
  intro H
  unfold fb
  rw [aQ]
 rw [tw] at he
 cases aO:(rf P t).run h ((bF x).run (dc r (bZ all o))) ((bF y).run (dc r (bZ all o))) with
 | none=>rw [aO] at he;cases he
 | some aH=>
   rw [aO] at he
   simp only [gI,aU.val.injEq] at he
   obtain ⟨rfl,rfl⟩:=he
   unfold rf at aO
   cases ax:aZ P t with
   | none=>rw [ax] at aO;cases aO
   | some aL=>
     rw [ax] at aO
     simp only [uC] at aO
     obtain ⟨b,off,ag,bf⟩:=wB aO
     obtain ⟨aD,cB⟩:=en bf
     obtain ⟨k,bX,b'⟩:=aaK cB
     refine ⟨b,off,k,ag,bX,fun H kF=>?_⟩
     rw [tw]
     unfold rf
     rw [ax]
     simp only [uC,ag,V.iY,aD,cond_true,b' H kF,gI]
theorem wH {listed:Array Bool} (h5:∀i o,ops[i]? =some o→lY i o=true) (cc:listed.size=ops.size) (aG:Region.ready .any ops listed=[]):∀i,i<ops.size→listed.getD i false=true:=by
 intro i
 induction i using Nat.strongRecOn with
 | _ i bj=>
   intro aF
   cases fW:listed.getD i false with
   | true=>rfl
   | false=>
     exfalso
     have cb:ops[i]? =some ops[i]:=Array.getElem?_eq_getElem aF
     have h5:=h5 i _ cb
     have:i ∈ Region.ready .any ops listed:=by
      rw [mem_ready]
      refine ⟨?_,ops[i],cb,fun e he ah=>?_⟩
      · have aO:i<listed.size:=by rw [cc];exact aF
        rw [Array.getD_eq_getD_getElem?,Array.getElem?_eq_getElem aO] at fW ⊢
        exact fW
      · have aa:=List.all_eq_true.1 h5 e (Array.mem_toList_iff.2 he)
        rw [u6] at ah
        rw [ah] at aa
        simp only [Bool.not_true,Bool.false_or,Nat.blt_eq] at aa
        exact bj e.on aa (by omega)
     rw [aG] at this
     simp at this
theorem uv {listed:Array Bool} {i:Nat} (afM:listed.size=ops.size) (aF:i ∈ Region.ready .any ops listed):i<ops.size∧¬listed.getD i false=true:=by
 rw [mem_ready] at aF
 obtain ⟨aa,o,ae,_⟩:=aF
 refine ⟨(Array.getElem?_eq_some_iff.1 ae).1,fun h=>?_⟩
 rw [rW] at h
 rw [Array.getD_eq_getD_getElem?,h] at aa
 simp at aa
theorem Ie {rd:Option Nat} {aq:Fr} (bD:eI P) (cD:gz P call) (de:gN P call) (h5:∀i o,ops[i]? =some o→lY i o=true) {i:Nat} {o:Oper} (cb:ops[i]? =some o) (aX:o.dst=none) {r:bt} {h ab:af} {v:V}
 (he:(ck P al ops o).run call r h=.val v ab) {Q:Exit→Act→World→Prop} {E:Env} {a:Act} {w:World} (k:fh E al r a) (s:a1 aq E h w) (c2:∀an aj,E.le an→a1 aq an ab aj→Q .normal a aj)
 {listed:Array Bool} (cc:listed.size=ops.size) (ev:∀j,j<ops.size→(listed.getD j false=true↔j≠i)) (fuel:Nat) (ar:1≤fuel):wpAnyIn (ca rd) 0 P .any ops Q fuel listed a w:=by
 have gu:i<ops.size:=(Array.getElem?_eq_some_iff.1 cb).1
 have fW:i<listed.size:=by rw [cc];exact gu
 cases fuel with
 | zero=>omega
 | succ fuel=>
   refine ⟨fun aG=>absurd (wH h5 cc aG i gu) (fun h=>((ev i gu).1 h) rfl),fun j bK=>?_⟩
   obtain ⟨yq,ua⟩:=uv cc bK
   have Xi:j=i:=by
    rcases Nat.decEq j i with dJ | he
    · exact absurd ((ev j yq).2 dJ) ua
    · exact he
   subst Xi
   refine pz bD cD de cb he k.size (fun t ax=>k.aJ t (Nat.le_of_ble_eq_true (List.all_eq_true.1 (j_ he).2 t ax))) s fun an x aj au az aM=>?_
   rw [aX]
   refine wpAnyIn_done ?_ (c2 an aj au aM) fuel
   cases aG:Region.ready .any ops (listed.setIfInBounds j true) with
   | nil=>rfl
   | cons m ms=>
     exfalso
     have hm:m ∈ Region.ready .any ops (listed.setIfInBounds j true):=by rw [aG];simp
     obtain ⟨m1,m2⟩:=uv (by simp [cc]) hm
     refine m2 ((fx fW).2 ?_)
     by_cases LH:m=j
     · exact .inl LH
     · exact .inr ((ev m m1).2 LH)
theorem aeA {rd:Option Nat} {aq:Fr} (bD:eI P) (cD:gz P call) (de:gN P call) (h5:∀i o,ops[i]? =some o→lY i o=true) {i j:Nat} {o p:Oper} (cb:ops[i]? =some o) (nd:ops[j]? =some p) (nQ:i≠j) (aX:o.dst=none) (lR:p.dst=none)
 {r:bt} {h aa jo ae:af} {v e4 u hF:V} (he:(ck P al ops o).run call r h=.val v aa) (ag:(ck P al ops p).run call r aa=.val u ae) (fN:(ck P al ops p).run call r h=.val hF jo) (eE:(ck P al ops o).run call r jo=.val e4 ae)
 {Q:Exit→Act→World→Prop} {E:Env} {a:Act} {w:World} (k:fh E al r a) (s:a1 aq E h w) (c2:∀an aj,E.le an→a1 aq an ae aj→Q .normal a aj)
 {listed:Array Bool} (cc:listed.size=ops.size) (ev:∀m,m<ops.size→(listed.getD m false=true↔(m≠i∧m≠j))) (fuel:Nat) (ar:2≤fuel):wpAnyIn (ca rd) 0 P .any ops Q fuel listed a w:=by
 have gu:i<ops.size:=(Array.getElem?_eq_some_iff.1 cb).1
 have A5:j<ops.size:=(Array.getElem?_eq_some_iff.1 nd).1
 have kg:∀{q:Oper} {H kV:af} {z:V},(ck P al ops q).run call r H=.val z kV→∀t ∈ bZ ops q,Rel E (T.get .bad (ai t) r) (a.tmps.getD t undef):=
  fun he t ax=>k.aJ t (Nat.le_of_ble_eq_true (List.all_eq_true.1 (j_ he).2 t ax))
 cases fuel with
 | zero=>omega
 | succ fuel=>
   refine ⟨fun aG=>absurd (wH h5 cc aG i gu) (fun h=>((ev i gu).1 h).1 rfl),fun m hm=>?_⟩
   obtain ⟨m1,m2⟩:=uv cc hm
   have hB:m=i∨m=j:=by
    rcases Nat.decEq m i with dJ | he
    · rcases Nat.decEq m j with XC | eh
      · exact absurd ((ev m m1).2 ⟨dJ,XC⟩) m2
      · exact .inr eh
    · exact .inl he
   rcases hB with rfl | rfl
   · refine pz bD cD de cb he k.size (kg he) s fun an x aj au az aM=>?_
     rw [aX]
     have fW:m<listed.size:=by rw [cc];exact gu
     refine Ie bD cD de h5 nd lR ag (k.mono au) aM (fun b9 bP bu bB=>c2 b9 bP (au.trans bu) bB) (by simp [cc]) (fun z bs=>?_) fuel (by omega)
     rw [fx fW,ev z bs]
     constructor
     · rintro (rfl | h)
       · exact nQ
       · exact h.2
     · intro h
       by_cases yk:z=m
       · exact .inl yk
       · exact .inr ⟨yk,h⟩
   · refine pz bD cD de nd fN k.size (kg fN) s fun an x aj au az aM=>?_
     rw [lR]
     have fW:m<listed.size:=by rw [cc];exact A5
     refine Ie bD cD de h5 cb aX eE (k.mono au) aM (fun b9 bP bu bB=>c2 b9 bP (au.trans bu) bB) (by simp [cc]) (fun z bs=>?_) fuel (by omega)
     rw [fx fW,ev z bs]
     constructor
     · rintro (rfl | h)
       · exact fun e=>nQ e.symm
       · exact h.1
     · intro h
       by_cases yk:z=m
       · exact .inl yk
       · exact .inr ⟨h,yk⟩
theorem P4 {rd:Option Nat} {id:Nat} {a:Act} {w:World} {Q:Exit→Act→World→Prop} (hm:P.follows .mixedOrders=true)
 (h:wpAnyIn (ca rd) 0 P .any ops Q ops.size (Array.replicate ops.size false) a {w with drawn:=w.drawn+1}):(Code.region id ops true).wpIn (ca rd) 0 P Q a w:=by
 refine wpIn_region_draw fun t=>?_
 rw [hm]
 exact wpAnyIn_sound _ _ _ _ _ h
theorem Ij {r bq:bt}:∀{rs:List Nat},(∀t ∈ rs,T.get .bad (ai t) bq=T.get .bad (ai t) r)→dc bq rs=dc r rs
 | [],_=>rfl
 | t::cr,h=>by
   simp only [dc]
   rw [h t (by simp),Ij (rs:=cr) fun u hu=>h u (by simp [hu])]
theorem UQ {all:Array Oper} {o:Oper} {call:dw} {r bq:bt} (h:∀t ∈ bZ all o,T.get .bad (ai t) bq=T.get .bad (ai t) r) (H:af):(ck P al all o).run call bq H=(ck P al all o).run call r H:=by
 unfold ck
 cases aD:(fe al o.dst&&kq (bZ all o)) with
 | false=>rfl
 | true=>
   simp only [cond_true]
   cases aE:o.guard with
   | none=>simp only [iv,Ij h]
   | some oY=>
     obtain ⟨j,want⟩:=oY
     simp only
     cases all[j]? with
     | none=>rfl
     | some g=>
       simp only
       cases g.dst with
       | none=>rfl
       | some d=>
         simp only
         cases (Nat.blt d al&&Nat.ble d top) with
         | false=>rfl
         | true=>simp only [cond_true,iv,Ij h]
theorem aez {rd:Option Nat} {aq:Fr} (bD:eI P) (cD:gz P call) (de:gN P call) (h5:∀i o,ops[i]? =some o→lY i o=true) {l i j:Nat} {b o p:Oper} (tJ:ops[l]? =some b) (cb:ops[i]? =some o) (nd:ops[j]? =some p)
 (fW:l≠i) (Ly:l≠j) (nQ:i≠j) (aX:o.dst=none) (lR:p.dst=none) {r bS:bt} {h aa jo ae:af} {z v e4 u hF:V}
 (ah:∀H,(ck P al ops b).run call r H=.val z H) (qT:bS=(ft b.dst).run r z) (vT:∀t ∈ bZ ops p,T.get .bad (ai t) bS=T.get .bad (ai t) r)
 (he:(ck P al ops o).run call bS h=.val v aa) (ag:(ck P al ops p).run call bS aa=.val u ae) (fN:(ck P al ops p).run call bS h=.val hF jo) (eE:(ck P al ops o).run call bS jo=.val e4 ae)
 {Q:Exit→Act→World→Prop} {E:Env} {a:Act} {w:World} (k:fh E al r a) (s:a1 aq E h w) (c2:∀an bh aj,E.le an→fh an al bS bh→a1 aq an ae aj→Q .normal bh aj)
 {listed:Array Bool} (cc:listed.size=ops.size) (tq:pk ops fun k=>listed.getD k false=true) (Yc:∀cy,(eF [] ops.toList)[i]? =some cy→fF cy l=true) (lO:∃cy,(eF [] ops.toList)[i]? =some cy)
 (ev:∀m,m<ops.size→(listed.getD m false=true↔(m≠l∧m≠i∧m≠j))) (fuel:Nat) (ar:3≤fuel):wpAnyIn (ca rd) 0 P .any ops Q fuel listed a w:=by
 have A8:l<ops.size:=(Array.getElem?_eq_some_iff.1 tJ).1
 have gu:i<ops.size:=(Array.getElem?_eq_some_iff.1 cb).1
 have A5:j<ops.size:=(Array.getElem?_eq_some_iff.1 nd).1
 have kg:∀{E:Env} {a:Act} {q:Oper} {R:bt} {H kV:af} {z:V},fh E al R a→(ck P al ops q).run call R H=.val z kV→∀t ∈ bZ ops q,Rel E (T.get .bad (ai t) R) (a.tmps.getD t undef):=
  fun k he t ax=>k.aJ t (Nat.le_of_ble_eq_true (List.all_eq_true.1 (j_ he).2 t ax))
 have Nt:∀(L:Array Bool),(pk ops fun k=>L.getD k false=true)→¬L.getD l false=true→i ∈ Region.ready .any ops L→False:=by
  intro L Wj r6 r5
  rw [mem_ready] at r5
  obtain ⟨_,b1,hn,tA⟩:=r5
  rw [cb] at hn;cases hn
  obtain ⟨cy,lO⟩:=lO
  have vt:pk ops fun k=>L.getD k false=true∨k=i:=by
   intro k ok e ay bA he ah
   rcases ay with ay | rfl
   · exact .inl (Wj k ok e ay bA he ah)
   · rw [cb] at bA;cases bA
     exact .inl (tA e (Array.mem_toList_iff.1 he) (by rw [u6];exact ah))
  rcases yD vt ops.toList [] (fun j=>by simp) (fun k m j ay=>by simp at ay) i cy l lO (Yc cy lO) (.inr rfl) with h | h
  · exact r6 h
  · exact fW h
 have UW:∀m,m ∈ Region.ready .any ops listed→pk ops fun k=>(listed.setIfInBounds m true).getD k false=true:=by
  intro m hm k ok e ay bA he ah
  have lN:=hm
  rw [mem_ready] at lN
  obtain ⟨_,fX,LN,tA⟩:=lN
  have Xy:m<listed.size:=by rw [cc];exact (Array.getElem?_eq_some_iff.1 LN).1
  rw [fx Xy] at ay ⊢
  rcases ay with rfl | ay
  · rw [LN] at bA;cases bA
    exact .inr (tA e (Array.mem_toList_iff.1 he) (by rw [u6];exact ah))
  · exact .inr (tq k ok e ay bA he ah)
 cases fuel with
 | zero=>omega
 | succ fuel=>
   refine ⟨fun aG=>absurd (wH h5 cc aG i gu) (fun h=>((ev i gu).1 h).2.1 rfl),fun m hm=>?_⟩
   obtain ⟨m1,m2⟩:=uv cc hm
   have hB:m=l∨m=j:=by
    rcases Nat.decEq m l with cz | aP
    · rcases Nat.decEq m j with ha | bl
      · rcases Nat.decEq m i with n3 | bW
        · exact absurd ((ev m m1).2 ⟨cz,n3,ha⟩) m2
        · subst bW
          exact (Nt listed tq (fun h=>((ev l A8).1 h).1 rfl) hm).elim
      · exact .inr bl
    · exact .inl aP
   rcases hB with rfl | rfl
   · -- p first
     have k8:m<listed.size:=by rw [cc];exact A8
     refine pz bD cD de tJ (ah h) k.size (kg k (ah h)) s fun an x aj au az aM=>?_
     have bX:fh an al bS (a.put b.dst x):=by rw [qT];exact (k.mono au).put (j_ (ah h)).1 az
     refine aeA bD cD de h5 cb nd nQ aX lR he ag fN eE bX aM (fun b9 bP bu bB=>c2 b9 _ bP (au.trans bu) (bX.mono bu) bB) (by simp [cc]) (fun y a7=>?_) fuel (by omega)
     rw [fx k8,ev y a7]
     constructor
     · rintro (rfl | h)
       · exact ⟨fW,Ly⟩
       · exact h.2
     · intro h
       by_cases yi:y=m
       · exact .inl yi
       · exact .inr ⟨yi,h⟩
   · -- q first
     have k8:m<listed.size:=by rw [cc];exact A5
     have tO:(ck P al ops p).run call r h=.val hF jo:=by rw [←UQ vT];exact fN
     have Wk:=UW m hm
     refine pz bD cD de nd tO k.size (kg k tO) s fun an x aj au az aM=>?_
     rw [lR]
     have tU:(listed.setIfInBounds m true).size=ops.size:=by simp [cc]
     cases fuel with
     | zero=>omega
     | succ fuel=>
       refine ⟨fun aG=>absurd (wH h5 tU aG i gu) (fun h=>?_),fun y a7=>?_⟩
       · rcases (fx k8).1 h with e | h
         · exact nQ e
         · exact ((ev i gu).1 h).2.1 rfl
       obtain ⟨eR,fR⟩:=uv tU a7
       have Yj:y=l:=by
        rcases Nat.decEq y l with cz | aP
        · rcases Nat.decEq y i with n3 | bW
          · exfalso
            refine fR ((fx k8).2 ?_)
            by_cases yi:y=m
            · exact .inl yi
            · exact .inr ((ev y eR).2 ⟨cz,n3,yi⟩)
          · subst bW
            refine (Nt _ Wk (fun h=>?_) a7).elim
            rcases (fx k8).1 h with e | h
            · exact Ly e
            · exact ((ev l A8).1 h).1 rfl
        · exact aP
       subst Yj
       have bp:=k.mono au
       refine pz bD cD de tJ (ah jo) bp.size (kg bp (ah jo)) aM fun b9 c1 bP t1 t2 t3=>?_
       have bX:fh b9 al bS (a.put b.dst c1):=by rw [qT];exact (bp.mono t1).put (j_ (ah h)).1 t2
       have FO:y < (listed.setIfInBounds m true).size:=by rw [tU];exact A8
       refine Ie bD cD de h5 cb aX eE bX t3 (fun fT iD bu bB=>c2 fT _ iD (au.trans (t1.trans bu)) (bX.mono bu) bB) (by simp [cc]) (fun g aE=>?_) fuel (by omega)
       rw [fx FO,fx k8,ev g aE]
       constructor
       · rintro (rfl | rfl | h)
         · exact fW
         · exact fun e=>nQ e.symm
         · exact h.2.1
       · intro h
         by_cases aP:g=y
         · exact .inl aP
         · by_cases bl:g=m
           · exact .inr (.inl bl)
           · exact .inr (.inr ⟨aP,h,bl⟩)
theorem ED {rd:Option Nat} {aq:Fr} {E:Env} {h:af} {w:World} {id:Nat} (cO:P.follows .mixedOrders=true) (bD:eI P) (cD:gz P call) (de:gN P call) {r:bt} {a:Act}
 {Q:Exit→Act→World→Prop} (k:fh E al r a) (s:a1 aq E h w) {es:List eM} {fg:bt} {ba:af} {order aw ei:List Nat} {N M:Nat} (C:Cert P al ops (fun _=>call) es r h fg ba ei order aw N M false)
 (c2:N=ops.size→∀an bh aj,E.le an→fh an al fg bh→a1 aq an ba aj→Q .normal bh aj)
 (h2:∀an bh aj x v ab,E.le an→N<ops.size→ops.size≤M→(∃i0 iq,ops[i0]? =some iq∧posOf aw i0=N∧(ck P al ops iq).run call fg ba=.cv v ab)→fh an al (nK r ops.toList) bh→Rel an v x→a1 aq an ab aj→Q (.panic (o7 x)) bh aj)
 (d_:M<ops.size→∀(fuel:Nat) (listed:Array Bool) an bh aj,(List.range ops.size).countP (fun i=>!listed.getD i false)≤fuel→listed.size=ops.size→pk ops (fun k=>listed.getD k false=true)→(∀k,k<ops.size→(listed.getD k false=true↔posOf aw k<N))→
   E.le an→fh an al fg bh→a1 aq an ba aj→wpAnyIn (ca rd) 0 P .any ops Q fuel listed bh aj):
 (Code.region id ops true).wpIn (ca rd) 0 P Q a w:=by
 have cZ:∀k,¬(Array.replicate ops.size false).getD k false=true:=by
  intro k
  rw [rW,Array.getElem?_replicate]
  split<;>simp
 have jV:Holds aq aq es ba aw (jK ops es ba aw (Array.replicate ops.size false) 0):=
  ⟨rfl,fun _ _=>rfl,fun k ay=>(by obtain ⟨_,_,_,_,a6⟩:=ay;omega),fun k bp ay=>(by obtain ⟨_,_,_,_,a6⟩:=ay;omega)⟩
 obtain ⟨fY,ej,g1,g2,g3,g4,g5,g6⟩:=C.advance N 0 (by omega) (fun k o _ _ _=>cZ k) aq jV (E:=E) (w:={w with drawn:=w.drawn}) (by rw [C.a6];exact s.same rfl rfl rfl rfl)
 have k5:∀(an:Env) (bh:Act),E.le an→bh.defers=a.defers→∀(bq:bt),T.get .bad eN bq=T.get .bad eN r→kT an (T.get .bad eN bq) bh.defers:=fun an bh he aX bq qS=>by rw [qS,aX];exact k.defers.mono he
 have AY:T.get .bad eN fg=T.get .bad eN r:=by
  have:=C.EE N (Nat.le_refl _)
  have FW:es[N]? =none:=List.getElem?_eq_none (by rw [C.len];exact Nat.le_refl _)
  simpa [dY,FW] using this
 refine P4 cO (Kl bD (fun _=>cD) (fun _=>de) C (gA:=E) (D:=a.defers)
  (fun aS an bh aj au az aM bU=>c2 aS an bh aj au ⟨az,k5 an bh au aM fg AY⟩ bU)
  (fun an bh aj x v ab au az Hy aM bU ey fP j3=>h2 an bh aj x v ab au az Hy aM ⟨bU,k5 an bh au ey _ Ap⟩ fP j3)
  (fun g0 fuel listed an bh aj g1 g2 g3 g4 au az aM bU=>d_ g0 fuel listed an bh aj g1 g2 g3 g4 au ⟨az,k5 an bh au aM fg AY⟩ bU) ops.size _ a _ ?_ ?_)
 · exact Nat.le_trans List.countP_le_length (by simp)
 · refine ⟨by simp,k.size,rfl,fun bp ay=>absurd ay (cZ bp),fun bp o e ay=>absurd ay (cZ bp),E,fY,ej,Env.le.refl E,g1,g3,fun bp o aa ae=>⟨fun h=>absurd h (cZ bp),fun h=>by have:=g4 bp o aa ae (Nat.zero_le _);omega⟩,
    fun bp o _ _ h=>absurd h (cZ bp),g5,?_,fun t ax=>.inr ⟨fun bp o ay=>absurd ay (cZ bp),k.aJ t ax⟩⟩
   exact g6.same rfl rfl rfl rfl
theorem NW {n:Nat} {order aw:List Nat} (gF:lq n order aw=true):order.length=n∧(∀k,k<n→posOf aw k<n∧order[posOf aw k]? =some k)∧∀p,p<n→∃i,i<n∧posOf aw i=p:=by
 unfold lq at gF
 simp only [Bool.and_eq_true,Nat.beq_eq] at gF
 obtain ⟨nT,vL,x1,x2⟩:=gF
 refine ⟨nT,fun k ay=>?_,fun p ag=>?_⟩
 · have aE:aw[k]? =some (posOf aw k):=by
    unfold posOf
    rw [List.getElem?_eq_getElem (by omega)]
    rfl
   have:=sr x1 aE
   rw [Nat.zero_add] at this
   exact ⟨by have:=(List.getElem?_eq_some_iff.1 this).1;omega,this⟩
 · have aE:order[p]? =some (order[p]'(by omega)):=List.getElem?_eq_getElem (by omega)
   have:=sr x2 aE
   rw [Nat.zero_add] at this
   refine ⟨order[p]'(by omega),by have:=(List.getElem?_eq_some_iff.1 this).1;omega,?_⟩
   unfold posOf
   rw [this]
   rfl
theorem aex {order aw:List Nat} (ar:zg P ops order aw=true):3≤ops.size∧∀i o,ops[i]? =some o→∃cy,(eF [] ops.toList)[i]? =some cy∧lY i o=true∧
 (posOf aw i<ops.size-3→∀k ok,ops[k]? =some ok→posOf aw k<ops.size-3→∃mk,(eF [] ops.toList)[k]? =some mk∧oe i cy (bZ ops o) o.dst k mk ok (Nat.blt (posOf aw k) (posOf aw i))=true∧(eP P o.op=true→dU P ok=true→posOf aw k<posOf aw i→fF cy k=true))∧
 (¬posOf aw i<ops.size-3→CD P ops order aw (ops.size-3) i cy o=true):=by
 unfold zg at ar
 simp only [Bool.and_eq_true,Nat.ble_eq] at ar
 refine ⟨ar.1,fun i o aF=>?_⟩
 obtain ⟨cy,aa,ae⟩:=pg ar.2 i o (by simpa using aF)
 simp only [Nat.zero_add,Bool.and_eq_true] at ae
 refine ⟨cy,aa,ae.1,fun aW k ok ay nR=>?_,fun js=>?_⟩
 · have aH:=ae.2
   rw [show Nat.blt (posOf aw i) (ops.size-3)=true from by rw [Nat.blt_eq];exact aW] at aH
   simp only [cond_true] at aH
   obtain ⟨mk,bX,b'⟩:=pg aH k ok (by simpa using ay)
   simp only [Nat.zero_add] at b'
   rw [show Nat.blt (posOf aw k) (ops.size-3)=true from by rw [Nat.blt_eq];exact nR] at b'
   simp only [cond_true,Bool.and_eq_true] at b'
   refine ⟨mk,bX,b'.1,fun aP bl aW=>?_⟩
   have gG:=b'.2
   rw [aP,bl,Bool.true_and,show Nat.blt (posOf aw k) (posOf aw i)=true from by rw [Nat.blt_eq];exact aW] at gG
   exact gG
 · have aH:=ae.2
   rw [show Nat.blt (posOf aw i) (ops.size-3)=false from by rw [←Bool.not_eq_true,Nat.blt_eq];exact js] at aH
   exact aH
theorem aey {order aw:List Nat} {N i cy p:Nat} {o B6:Oper} (ag:order[N]? =some p) (k':ops[p]? =some B6) (h:CD P ops order aw N i cy o=true):
 (∀k,k<ops.size→posOf aw k<N→fF cy k=true)∧(posOf aw i=N→eP P o.op=false∧looks o.op=false)∧(posOf aw i≠N→∃x,rh o=some x)∧
 (posOf aw i=N+1→fF cy p=true)∧(posOf aw i=N+2→∀t ∈ bZ ops o,B6.dst≠some t):=by
 unfold CD at h
 rw [ag] at h
 simp only [Bool.and_eq_true] at h
 obtain ⟨⟨aa,ae⟩,aH,bf⟩:=h
 refine ⟨fun k ay FF=>?_,fun e=>?_,fun e=>?_,fun e=>?_,fun e t ax=>?_⟩
 · obtain ⟨mk,bX,b'⟩:=pg aa k ops[k] (by simp)
   simp only [Nat.zero_add] at b'
   rw [show Nat.blt (posOf aw k) N=true from by rw [Nat.blt_eq];exact FF] at b'
   exact b'
 · rw [hL,if_pos e] at ae
   simpa using ae
 · rw [hL,if_neg e] at ae
   exact Option.isSome_iff_exists.1 ae
 · rw [hL,if_pos e] at aH
   exact aH
 · rw [hL,if_pos e,k'] at bf
   simp only at bf
   intro aX
   rw [aX] at bf
   simp only [Bool.not_eq_true'] at bf
   rw [show (bZ ops o).contains t=true from by simpa using ax] at bf
   cases bf
theorem Fm {es:List eM} {ba:af} {N p:Nat} (ag:p≤N):b2 (es.take N) (b2 es ba N) p=b2 es ba p:=by
 by_cases h:p<N
 · cases he:es[p]? with
   | some e=>simp [b2,h,he]
   | none=>
     have aS:es[N]? =none:=List.getElem?_eq_none (by have:=List.getElem?_eq_none_iff.1 he;omega)
     simp [b2,h,he,aS]
 · have:p=N:=by omega
   subst this
   simp [b2,List.getElem?_take]
theorem OI {es:List eM} {fg:bt} {N p:Nat} (ag:p≤N):dY (es.take N) (dY es fg N) p=dY es fg p:=by
 by_cases h:p<N
 · cases he:es[p]? with
   | some e=>simp [dY,h,he]
   | none=>
     have aS:es[N]? =none:=List.getElem?_eq_none (by have:=List.getElem?_eq_none_iff.1 he;omega)
     simp [dY,h,he,aS]
 · have:p=N:=by omega
   subst this
   simp [dY,List.getElem?_take]
theorem Ro {order:List Nat} {es:List eM} {N i j:Nat} {o p:Oper} {e f:eM} {x y:Operand} (bd:zO ops order es N=true) (aF:order[N]? =some i) (bK:order[N+1]? =some j) (cb:ops[i]? =some o) (nd:ops[j]? =some p)
 (he:es[N]? =some e) (ar:es[N+1]? =some f) (ak:rh o=some x) (a7:rh p=some y) {b c:aN} {off nu:Nat} (ah:(bF x).run (dc e.r (bZ ops o))=.ptr b off) (aD:(bF y).run (dc f.r (bZ ops p))=.ptr c nu):b≠c:=by
 unfold zO Ib at bd
 simp only [aF,bK,cb,nd,he,ar,ak,a7,ah,aD] at bd
 intro h
 subst h
 rw [aN.xE] at bd
 cases bd
set_option maxHeartbeats 2000000 in
theorem UY {rd:Option Nat} {aq:Fr} {E:Env} {h:af} {w:World} {id:Nat} (cO:P.follows .mixedOrders=true) (bD:eI P) (cD:gz P call) (de:gN P call) {r:bt} {a:Act} {order aw:List Nat} (gF:lq ops.size order aw=true) (g':zg P ops order aw=true)
 {Q:Exit→Act→World→Prop} (ag:mS aq E al (Q .normal) Q (EC ops order (fq P al ops (hc ops order)) (qu P al ops (eF [] ops.toList) aw (ht P aw 0 ops.toList) 0 ops.toList) call r h)) (k:fh E al r a) (s:a1 aq E h w):(Code.region id ops true).wpIn (ca rd) 0 P Q a w:=by
 obtain ⟨nT,hR,kO⟩:=NW gF
 obtain ⟨ae,g'⟩:=aex g'
 unfold EC at ag
 cases ct:(fq P al ops (hc ops order)).run call r h with
 | fail=>rw [ct] at ag;exact ag.elim
 | cv _ _ _ _ _=>rw [ct] at ag;exact ag.elim
 | ok es fg ba=>
   rw [ct] at ag
   simp only at ag
   obtain ⟨N,Wt⟩:∃N,N=ops.size-3:=⟨_,rfl⟩
   rw [←Wt] at ag g'
   cases av:(zO ops order es (N+1)&&(qu P al ops (eF [] ops.toList) aw (ht P aw 0 ops.toList) 0 ops.toList).run call (es.take N) (b2 es ba N)) with
   | false=>rw [av] at ag;exact ag.elim
   | true=>
     rw [av] at ag
     simp only [cond_true] at ag
     simp only [Bool.and_eq_true] at av
     obtain ⟨AT,xM⟩:=av
     obtain ⟨au,az,aM,bU⟩:=sB ct
     have hlen:es.length=ops.size:=by rw [au,o6,nT]
     have inj:∀i j,i<ops.size→j<ops.size→posOf aw i=posOf aw j→i=j:=by
      intro i j aF bK he
      have a:=(hR i aF).2
      have b:=(hR j bK).2
      rw [he,b] at a
      cases a
      rfl
     obtain ⟨lT,rZ,vu⟩:=kO N (by omega)
     obtain ⟨nY,vr,vs⟩:=kO (N+1) (by omega)
     obtain ⟨p0,oK,rY⟩:=kO (N+2) (by omega)
     have xV:ops[lT]? =some ops[lT]:=Array.getElem?_eq_getElem rZ
     have A3:ops[nY]? =some ops[nY]:=Array.getElem?_eq_getElem vr
     have A4:ops[p0]? =some ops[p0]:=Array.getElem?_eq_getElem oK
     have F2:=(hR lT rZ).2
     have F0:=(hR nY vr).2
     have F1:=(hR p0 oK).2
     rw [vu] at F2
     rw [vs] at F0
     rw [rY] at F1
     have vV:∀i o,ops[i]? =some o→¬posOf aw i<N→∃cy,(eF [] ops.toList)[i]? =some cy∧(∀k,k<ops.size→posOf aw k<N→fF cy k=true)∧(posOf aw i=N→eP P o.op=false∧looks o.op=false)∧(posOf aw i≠N→∃x,rh o=some x)∧
      (posOf aw i=N+1→fF cy lT=true)∧(posOf aw i=N+2→∀t ∈ bZ ops o,ops[lT].dst≠some t):=by
      intro i o aF js
      obtain ⟨cy,cm,_,_,z4⟩:=g' i o aF
      exact ⟨cy,cm,aey F2 xV (z4 js)⟩
     obtain ⟨agF,_,_,aev,_⟩:=vV lT _ xV (by omega)
     obtain ⟨BF,LD,_,_,aet,aA,_⟩:=vV nY _ A3 (by omega)
     obtain ⟨GQ,agh,_,_,aeu,_,HC⟩:=vV p0 _ A4 (by omega)
     obtain ⟨Kr,abi⟩:=aev vu
     obtain ⟨ag5,Gm⟩:=aet (by omega)
     obtain ⟨ag6,Gn⟩:=aeu (by omega)
     have aA:=aA vs
     have HC:=HC rY
     obtain ⟨EI,fO,h7,yu⟩:=bU _ _ (mH F2 xV)
     obtain ⟨te,bE,a2,a3⟩:=bU _ _ (mH F0 A3)
     obtain ⟨Kq,cx,cn,hZ⟩:=bU _ _ (mH F1 A4)
     obtain ⟨agY,ag9,ab2,J7,af0⟩:=Ia Gm
     obtain ⟨agZ,ag',agL,J8,af1⟩:=Ia Gn
     have cZ:es[N+2+1]? =none:=List.getElem?_eq_none (by omega)
     have Xs:b2 es ba (N+2+1)=ba:=by simp [b2,cZ]
     have adC:dY es fg (N+2+1)=fg:=by simp [dY,cZ]
     have Ws:b2 es ba N=EI.h:=by simp [b2,fO]
     have adj:dY es fg N=EI.r:=by simp [dY,fO]
     have Wq:b2 es ba (N+1)=te.h:=by simp [b2,bE]
     have adh:dY es fg (N+1)=te.r:=by simp [dY,bE]
     have Wr:b2 es ba (N+1+1)=Kq.h:=by simp [b2,cx]
     have adi:dY es fg (N+1+1)=Kq.r:=by simp [dY,cx]
     rw [adh] at yu
     rw [Wq] at h7
     rw [J7,adi] at a3
     rw [J8,adC] at hZ
     simp only [ft] at a3 hZ
     rw [Wr] at a2
     rw [Xs] at cn
     obtain ⟨Wo,E7⟩:=tb Kr h7
     have E7:=E7 abi
     obtain ⟨Jt,agM,YQ,acH,O5,aeT⟩:=Ki Gm a2
     obtain ⟨DC,agN,MB,acI,adO,aeU⟩:=Ki Gn cn
     have dJ:Jt≠DC:=Ro AT F0 F1 A3 A4 bE cx Gm Gn acH acI
     have E6:=aeU te.h (by rw [O5,af.c0,if_neg dJ])
     have xK:=aeT (te.h.set DC MB) (by rw [af.c0,if_neg (fun e=>dJ e.symm)])
     have WQ:(te.h.set DC MB).set Jt YQ=ba:=by rw [af.set_comm _ (fun e=>dJ e.symm),←O5,←adO]
     rw [WQ] at xK
     rw [a3] at E6 cn
     have kh:fg=te.r:=hZ.trans a3
     have Xz:∀m,m<ops.size→(posOf aw m<N↔(m≠lT∧m≠nY∧m≠p0)):=by
      intro m hm
      have LQ:=(hR m hm).1
      constructor
      · intro h
        exact ⟨fun e=>by subst e;omega,fun e=>by subst e;omega,fun e=>by subst e;omega⟩
      · rintro ⟨cu,cz,ha⟩
        have mh:posOf aw m≠N:=fun e=>cu (inj m lT hm rZ (by rw [e,vu]))
        have bL:posOf aw m≠N+1:=fun e=>cz (inj m nY hm vr (by rw [e,vs]))
        have b0:posOf aw m≠N+2:=fun e=>ha (inj m p0 hm oK (by rw [e,rY]))
        omega
     have WN:dU P ops[nY]=true:=by unfold dU gw;rw [ab2];rfl
     have vT:∀t ∈ bZ ops ops[p0],T.get .bad (ai t) te.r=T.get .bad (ai t) EI.r:=by
      intro t ax
      have vX:t≤top:=Nat.le_of_ble_eq_true (List.all_eq_true.1 (j_ cn).2 t ax)
      rw [yu,K1 (j_ h7).1 vX,if_neg (HC t ax)]
     have hC:∀i o,ops[i]? =some o→posOf aw i<N→∃e,(es.take N)[posOf aw i]? =some e∧(ck P al ops o).run call e.r e.h=.val e.v (b2 (es.take N) (b2 es ba N) (posOf aw i+1))∧dY (es.take N) (dY es fg N) (posOf aw i+1)=(ft o.dst).run e.r e.v:=by
      intro i o aQ aF
      obtain ⟨e,cm,z2,z3⟩:=bU _ o (mH (hR i (Array.getElem?_eq_some_iff.1 aQ).1).2 aQ)
      refine ⟨e,by simp [aF,cm],?_,?_⟩
      · rw [Fm (by omega)];exact z2
      · rw [OI (by omega)];exact z3
     have C:Cert P al ops (fun _=>call) (es.take N) r h (dY es fg N) (b2 es ba N) (N::ht P aw 0 ops.toList) order aw N N false:=
      ⟨by simp [hlen];omega,by omega,Nat.le_refl _,hR,kO,by rw [Fm (Nat.zero_le _)];exact az,by rw [OI (Nat.zero_le _)];exact aM,hC,
        fun i o aQ=>by
         obtain ⟨cy,cm,z2,z3,_⟩:=g' i o aQ
         exact ⟨cy,cm,z2,fun aF k ok ay FE=>by
          obtain ⟨mk,eR,fR,y3⟩:=z3 aF k ok ay FE
          exact ⟨mk,eR,fR,fun a b c=>.inl (y3 a b c)⟩⟩,
        by simp,
        fun j o aa ae=>List.mem_cons_of_mem _ (by simpa using wj (aw:=aw) (i:=0) (j:=j) (l:=ops.toList) (by simpa using aa) ae),
        fun s aO=>by
         rcases List.mem_cons.1 aO with rfl | aO
         · exact .inl (.inr ⟨rfl,rfl⟩)
         · rcases se aO with h | ⟨j,o,aa,ae,aH⟩
           · exact .inl (.inl (by simpa using h))
           · exact .inr ⟨j,o,by simpa using aa,ae,by simpa using aH⟩,
        fun j o aa ae aH bf=>by
         obtain ⟨e,g1,_⟩:=hC j o aa bf
         have L4:=Dw xM j o (by simpa using aa) ae aH e (by simpa using g1)
         refine ⟨e,g1,fun s aO hm=>?_⟩
         rcases List.mem_cons.1 aO with rfl | aO
         · have mu:q4 P (eF [] ops.toList) ops.toList aw j (((eF [] ops.toList)[j]?).getD 0) (s+1)=true:=by
            unfold q4 at hm ⊢
            refine Iz (by rw [GW];simp) fun cV mk ok eR fR=>?_
            obtain ⟨mk',bx,c1⟩:=pg hm cV ok fR
            rw [eR] at bx;cases bx
            simp only [Nat.zero_add] at c1 ⊢
            have bA:ops[cV]? =some ok:=by simpa using fR
            have nR:=(Array.getElem?_eq_some_iff.1 bA).1
            by_cases pQ:posOf aw cV=s
            · have:cV=lT:=inj cV lT nR rZ (by rw [pQ,vu])
              subst this
              rw [xV] at bA;cases bA
              have XB:dU P ops[cV]=false:=by unfold dU;rw [Kr];rfl
              rw [XB]
              rfl
            · have:Nat.blt (posOf aw cV) (s+1)=Nat.blt (posOf aw cV) s:=by
               rw [Bool.eq_iff_iff,Nat.blt_eq,Nat.blt_eq]
               omega
              rw [this]
              exact c1
           have r5:s+1 ∈ ht P aw 0 ops.toList:=by rw [←vs];simpa using wj (P:=P) (aw:=aw) (i:=0) (j:=nY) (l:=ops.toList) (by simp) WN
           obtain ⟨ab,g3⟩:=L4 (s+1) r5 (by simpa using mu)
           refine ⟨call,ab,⟨cD,de⟩,?_⟩
           have aP:b2 (es.take s) (b2 es ba s) (s+1)=b2 es ba s:=by
            have:(es.take s)[s+1]? =none:=List.getElem?_eq_none (by simp;omega)
            simp only [b2,this]
           have bl:b2 (es.take s) (b2 es ba s) s=b2 es ba s:=Fm (Nat.le_refl _)
           rw [aP] at g3
           rw [bl]
           exact g3
         · obtain ⟨ab,g3⟩:=L4 s aO (by simpa using hm)
           exact ⟨call,ab,⟨cD,de⟩,g3⟩,
        fun _=>⟨rfl,fun cV ok mk ay js FQ j bK xW=>by
         obtain ⟨cy,cm,z2,_⟩:=vV cV ok ay (by omega)
         rw [FQ] at cm;cases cm
         exact z2 j bK xW⟩,
        fun aa ae=>by omega⟩
     refine ED cO bD cD de k s C (fun h=>by omega) (fun _ _ _ _ _ _ _ _ h=>by omega) (fun _ fuel listed an bh aj g1 g2 g3 g4 g5 g6 g7=>?_)
     rw [adj] at g6
     rw [Ws] at g7
     rw [Wo] at a2 E6 xK
     refine aez bD cD de (fun i o aQ=>by obtain ⟨cy,_,z2,_⟩:=g' i o aQ;exact z2) xV A3 A4 (fun e=>by rw [e] at vu;omega) (fun e=>by rw [e] at vu;omega) (fun e=>by rw [e] at vs;omega) J7 J8
      E7 yu vT a2 cn E6 xK g6 g7 (fun b9 a2 bP bu bB dP=>ag b9 a2 bP (g5.trans bu) (by rw [kh];exact bB) dP) g2 g3 (fun cy lO=>by rw [LD] at lO;cases lO;exact aA) ⟨BF,LD⟩ (fun m hm=>(g4 m hm).trans (Xz m hm)) fuel ?_
     have Ew:∀(L:Array Bool) (x:Nat),L.size=ops.size→x<ops.size→¬L.getD x false=true→(List.range ops.size).countP (fun k=>!(L.setIfInBounds x true).getD k false) < (List.range ops.size).countP (fun k=>!L.getD k false):=by
      intro L x eO ak aS
      have v':x<L.size:=by rw [eO];exact ak
      refine Ae (fun k=>!L.getD k false) (fun k=>!(L.setIfInBounds x true).getD k false) (List.range ops.size) (fun k _ ay=>?_) ⟨x,List.mem_range.2 ak,?_,?_⟩
      · simp only [Bool.not_eq_true'] at ay ⊢
        cases av:L.getD k false with
        | false=>rfl
        | true=>
          have:=(fx (k:=k) v').2 (.inr av)
          rw [ay] at this
          cases this
      · cases av:L.getD x false with
        | false=>rfl
        | true=>exact absurd av aS
      · have:=(fx (k:=x) v').2 (.inl rfl)
        simp [this]
     have abD:¬listed.getD lT false=true:=fun h=>by have:=(g4 lT rZ).1 h;omega
     have abB:¬listed.getD nY false=true:=fun h=>by have:=(g4 nY vr).1 h;omega
     have abC:¬listed.getD p0 false=true:=fun h=>by have:=(g4 p0 oK).1 h;omega
     have bL:=Ew listed lT g2 rZ abD
     have b0:=Ew (listed.setIfInBounds lT true) nY (by simp [g2]) vr (fun h=>by
      rcases (fx (by rw [g2];exact rZ)).1 h with e | h
      · rw [e] at vs;omega
      · exact abB h)
     have c3:=Ew ((listed.setIfInBounds lT true).setIfInBounds nY true) p0 (by simp [g2]) oK (fun h=>by
      rcases (fx (by simp [g2];exact vr)).1 h with e | h
      · rw [e] at rY;omega
      · rcases (fx (by rw [g2];exact rZ)).1 h with e | h
        · rw [e] at rY;omega
        · exact abC h)
     omega
end
end Go.Proofs.YthemdhlheglhoaaGreatDoor.aY
namespace Go.Proofs.YthemdhlheglhoaaGreatDoor.aY
variable [Lay]
open Go Go.RowKit
section
variable {P:Program} {al:Nat} {ops:Array Oper} {call:dw}
inductive oy {α β:Type} (R:α→β→Prop):List α→List β→Prop
 | nil:oy R [] []
 | cons {a:α} {b:β} {GO:List α} {GP:List β} (h:R a b) (t:oy R GO GP):oy R (a::GO) (b::GP)
def uu (ops:Array Oper) (t:Nat) (listed:Array Bool):Option Nat:=(Region.ready .any ops listed)[t % (Region.ready .any ops listed).length]?
theorem go_succ (fuel t:Nat) (listed:Array Bool):Region.linearise.go .any ops (fuel+1) t listed []=match uu ops t listed with
 | some i=>i::Region.linearise.go .any ops fuel (t / (Region.ready .any ops listed).length) (listed.setIfInBounds i true) []
 | none=>[]:=by
 simp only [Region.linearise.go]
 change (match (Region.ready .any ops listed)[t % (Region.ready .any ops listed).length]? with
  | some i=>Region.linearise.go .any ops fuel (t / (Region.ready .any ops listed).length) (listed.setIfInBounds i true) [i]
  | none=>[].reverse)=_
 unfold uu
 cases (Region.ready .any ops listed)[t % (Region.ready .any ops listed).length]? with
 | none=>rfl
 | some i=>
   simp only
   rw [linearise_go_acc,List.reverse_singleton,List.singleton_append]
theorem OF {t:Nat} {listed:Array Bool} (h:uu ops t listed=none):Region.ready .any ops listed=[]:=by
 unfold uu at h
 cases aG:Region.ready .any ops listed with
 | nil=>rfl
 | cons x xs=>
   rw [aG] at h
   have aW:t % (x::xs).length < (x::xs).length:=Nat.mod_lt _ (by simp)
   rw [List.getElem?_eq_getElem aW] at h
   cases h
theorem HF {t i:Nat} {listed:Array Bool} (h:uu ops t listed=some i):i ∈ Region.ready .any ops listed:=List.mem_of_getElem? h
theorem count_set {listed:Array Bool} {i:Nat} (cc:listed.size=ops.size) (aF:i<ops.size) (aS:¬listed.getD i false=true):
 (List.range ops.size).countP (fun k=>!(listed.setIfInBounds i true).getD k false) < (List.range ops.size).countP (fun k=>!listed.getD k false):=by
 have ao:i<listed.size:=by rw [cc];exact aF
 refine Ae (fun k=>!listed.getD k false) (fun k=>!(listed.setIfInBounds i true).getD k false) (List.range ops.size) (fun k _ ay=>?_) ⟨i,List.mem_range.2 aF,?_,?_⟩
 · simp only [Bool.not_eq_true'] at ay ⊢
   cases av:listed.getD k false with
   | false=>rfl
   | true=>
     have:=(fx (k:=k) ao).2 (.inr av)
     rw [ay] at this
     cases this
 · cases av:listed.getD i false with
   | false=>rfl
   | true=>exact absurd av aS
 · have:=(fx (k:=i) ao).2 (.inl rfl)
   simp [this]
theorem K3 (h5:∀i o,ops[i]? =some o→lY i o=true):∀(fuel t:Nat) (listed:Array Bool),listed.size=ops.size→(List.range ops.size).countP (fun i=>!listed.getD i false)≤fuel→
 (Region.linearise.go .any ops fuel t listed []).Nodup∧(∀k ∈ Region.linearise.go .any ops fuel t listed [],k<ops.size∧¬listed.getD k false=true)∧
  ∀k,k<ops.size→listed.getD k false=true∨k ∈ Region.linearise.go .any ops fuel t listed []
 | 0,t,listed,cc,aD=>by
   have e:Region.linearise.go .any ops 0 t listed []=[]:=rfl
   rw [e]
   refine ⟨List.nodup_nil,fun k ay=>by simp at ay,fun k ay=>.inl ?_⟩
   have a6:(List.range ops.size).countP (fun i=>!listed.getD i false)=0:=by omega
   rw [List.countP_eq_zero] at a6
   simpa using a6 k (List.mem_range.2 ay)
 | fuel+1,t,listed,cc,aD=>by
   rw [go_succ]
   cases aG:uu ops t listed with
   | none=>
     simp only
     exact ⟨List.nodup_nil,fun k ay=>by simp at ay,fun k ay=>.inl (wH h5 cc (OF aG) k ay)⟩
   | some i=>
     simp only
     obtain ⟨i1,i2⟩:=uv cc (HF aG)
     have ao:i<listed.size:=by rw [cc];exact i1
     have:=count_set cc i1 i2
     obtain ⟨g1,g2,g3⟩:=K3 h5 fuel (t / (Region.ready .any ops listed).length) (listed.setIfInBounds i true) (by simp [cc]) (by omega)
     refine ⟨List.nodup_cons.2 ⟨fun hm=>(g2 i hm).2 ((fx ao).2 (.inl rfl)),g1⟩,fun k ay=>?_,fun k ay=>?_⟩
     · rcases List.mem_cons.1 ay with rfl | ay
       · exact ⟨i1,i2⟩
       · exact ⟨(g2 k ay).1,fun h=>(g2 k ay).2 ((fx ao).2 (.inr h))⟩
     · rcases g3 k ay with h | h
       · rcases (fx ao).1 h with rfl | h
         · exact .inr (by simp)
         · exact .inl h
       · exact .inr (by simp [h])
theorem Cx {o:Oper} {os:List Oper} {r:bt} {h:af} {es:List eM} {cL:bt} {ar:af} (he:(fq P al ops (o::os)).run call r h=.ok es cL ar):
 ∃v aa hk,(ck P al ops o).run call r h=.val v aa∧(fq P al ops os).run call ((ft o.dst).run r v) aa=.ok hk cL ar∧es=⟨r,h,v⟩::hk:=by
 simp only [fq,zf] at he
 cases aa:(ck P al ops o).run call r h with
 | fail=>rw [aa] at he;cases he
 | cv _ _=>rw [aa] at he;simp only at he;cases hm:ln o.op<;>rw [hm] at he<;>cases he
 | val v ba=>
   rw [aa] at he
   simp only at he
   cases ae:(fq P al ops os).run call ((ft o.dst).run r v) ba with
   | fail=>rw [ae] at he;cases he
   | cv _ _ _ _ _=>rw [ae] at he;cases he
   | ok hk bS aH=>
     rw [ae] at he
     simp only [pj.ok.injEq] at he
     obtain ⟨rfl,rfl,rfl⟩:=he
     exact ⟨v,ba,hk,rfl,ae,rfl⟩
theorem Cy {o:Oper} {os:List Oper} {r:bt} {h aa:af} {v:V} {hk:List eM} {cL:bt} {ar:af} (a6:(ck P al ops o).run call r h=.val v aa) (ae:(fq P al ops os).run call ((ft o.dst).run r v) aa=.ok hk cL ar):
 (fq P al ops (o::os)).run call r h=.ok (⟨r,h,v⟩::hk) cL ar:=by
 simp only [fq,zf,a6,ae]
theorem H':∀(fO h7:List Oper) {r:bt} {h:af} {es:List eM} {cL:bt} {ar:af},(fq P al ops (fO++h7)).run call r h=.ok es cL ar→
 ∃hk bS aa pC,(fq P al ops fO).run call r h=.ok hk bS aa∧(fq P al ops h7).run call bS aa=.ok pC cL ar∧es=hk++pC
 | [],h7,r,h,es,cL,ar,he=>⟨[],r,h,es,rfl,he,rfl⟩
 | o::os,h7,r,h,es,cL,ar,he=>by
   obtain ⟨v,aa,hk,au,az,rfl⟩:=Cx he
   obtain ⟨ER,bS,aH,pC,g1,g2,rfl⟩:=H' os h7 az
   exact ⟨⟨r,h,v⟩::ER,bS,aH,pC,Cy au g1,g2,rfl⟩
theorem H_:∀(fO h7:List Oper) {r bS cL:bt} {h aa ar:af} {hk pC:List eM},(fq P al ops fO).run call r h=.ok hk bS aa→(fq P al ops h7).run call bS aa=.ok pC cL ar→
 (fq P al ops (fO++h7)).run call r h=.ok (hk++pC) cL ar
 | [],h7,r,bS,cL,h,aa,ar,hk,pC,he,ae=>by
   simp only [fq,pj.ok.injEq] at he
   obtain ⟨rfl,rfl,rfl⟩:=he
   exact ae
 | o::os,h7,r,bS,cL,h,aa,ar,hk,pC,he,ae=>by
   obtain ⟨v,aH,ER,au,az,rfl⟩:=Cx he
   exact Cy au (H_ os h7 az ae)
theorem yP:∀(a b:List Nat),hc ops (a++b)=hc ops a++hc ops b
 | [],b=>rfl
 | x::xs,b=>by simp [hc,yP xs b]
theorem OC:∀(l:List Oper),(∀o ∈ l,eP P o.op=false∧looks o.op=false)→∀{r cL:bt} {h ar:af} {es:List eM},(fq P al ops l).run call r h=.ok es cL ar→
 ar=h∧∀H:af,∃jn,(fq P al ops l).run call r H=.ok jn cL H
 | [],_,r,cL,h,ar,es,he=>by
   simp only [fq,pj.ok.injEq] at he
   obtain ⟨rfl,rfl,rfl⟩:=he
   exact ⟨rfl,fun H=>⟨[],rfl⟩⟩
 | o::os,av,r,cL,h,ar,es,he=>by
   obtain ⟨v,aa,hk,au,az,rfl⟩:=Cx he
   obtain ⟨aP,bl⟩:=av o (by simp)
   obtain ⟨d1,d2⟩:=tb aP au
   subst d1
   obtain ⟨g1,g2⟩:=OC os (fun b1 hn=>av b1 (by simp [hn])) az
   refine ⟨g1,fun H=>?_⟩
   obtain ⟨jn,g3⟩:=g2 H
   exact ⟨_,Cy (d2 bl H) g3⟩
theorem ym {o:Oper} {A:uN} (h:lb o=some A):o.op=.insert A.t A.m A.k A.x∧o.dst=none∧o.guard=none:=by
 unfold lb at h
 split at h
 case h_2=>cases h
 rename_i t m k x aQ
 split at h
 case h_2=>cases h
 rename_i aX
 split at h
 case h_2=>cases h
 rename_i aE
 cases h
 exact ⟨aQ,aX,aE⟩
theorem Oo {e:dq} {k v:V} {c:Nat}:∀{es:List cH},(∀m ∈ es,e.run k m.k=some false)→lr e k v c es=some (es++[⟨k,v,c⟩],true)
 | [],_=>rfl
 | m::ms,h=>by
   simp only [lr,h m (by simp),cond_false,Oo (es:=ms) fun b3 mu=>h b3 (by simp [mu]),List.cons_append]
theorem UR {o:Oper} {A:uN} (vH:ys P A.t=true) (m_:lb o=some A) {r:bt} {H1 cG:af} {v:V} (he:(ck P al ops o).run call r H1=.val v cG) {b:aN} (ah:(bF A.m).run (dc r (bZ ops o))=.map b):
 ∀(H:af) es c,H.get b=.mp es c→(∀m ∈ es,(sd P A.t).run ((bF A.k).run (dc r (bZ ops o))) m.k=some false)→
  (ck P al ops o).run call r H=.val .bad (H.set b (.mp (es++[⟨(bF A.k).run (dc r (bZ ops o)),(bF A.x).run (dc r (bZ ops o)),c⟩]) (c+1))):=by
 obtain ⟨aQ,aX,aE⟩:=ym m_
 obtain ⟨aa,ae⟩:=j_ he
 have key:ck P al ops o=⟨iv none (fb P o) (bZ ops o)⟩:=by
  unfold ck
  rw [show (fe al o.dst&&kq (bZ ops o))=true from by rw [aa,ae];rfl,aE]
  rfl
 rw [key] at he ⊢
 simp only [iv] at he ⊢
 have tw:∀H,(fb P o).run call (dc r (bZ ops o)) H=gI .bad ((ou P A.t).run H (.map b) ((bF A.k).run (dc r (bZ ops o))) ((bF A.x).run (dc r (bZ ops o)))):=by
  intro H
  unfold fb
  rw [aQ]
  simp only [ah]
 rw [tw] at he
 have Ya:ou P A.t=⟨nz (sd P A.t)⟩:=by
  cases aO:(ou P A.t).run H1 (.map b) ((bF A.k).run (dc r (bZ ops o))) ((bF A.x).run (dc r (bZ ops o))) with
  | none=>rw [aO] at he;cases he
  | some aH=>
    unfold ou at aO ⊢
    unfold sd
    cases ax:aZ P A.t with
    | none=>rw [ax] at aO;cases aO
    | some aL=>
      rw [ax] at aO
      simp only at aO ⊢
      cases bJ:aL.a'<;>rw [bJ] at aO<;>simp only at aO ⊢<;>try (cases aO;done)
      rename_i cd ka
      cases nf:aZ P cd with
      | none=>rw [nf] at aO;cases aO
      | some hs=>
        rw [nf] at aO
        simp only at aO ⊢
        cases ar:nj hs.a' with
        | false=>
          unfold ys at vH
          rw [ax] at vH
          simp only [bJ,nf,ar] at vH
          cases vH
        | true=>rfl
 intro H es c kF ay
 rw [tw,Ya]
 simp only [nz,kF,b4.kN,Oo ay,gI,cond_true]
theorem YD {o:Oper} {r:bt} {b:aN} {m:cH} (h:sb ops r b o=some m):∃A,lb o=some A∧(bF A.m).run (dc r (bZ ops o))=.map b∧m.k=(bF A.k).run (dc r (bZ ops o))∧m.v=(bF A.x).run (dc r (bZ ops o)):=by
 unfold sb at h
 cases bd:lb o with
 | none=>rw [bd] at h;cases h
 | some A=>
   rw [bd] at h
   simp only at h
   cases hm:(bF A.m).run (dc r (bZ ops o))<;>rw [hm] at h<;>simp only at h<;>try (cases h;done)
   obtain ⟨aD,aa⟩:=en h
   have:=aN.k0 aD
   subst this
   cases aa
   exact ⟨A,rfl,hm,rfl,rfl⟩
def kx (ops:Array Oper) (r:bt) (b:aN) (i:Nat) (m:cH):Prop:=∃o,ops[i]? =some o∧sb ops r b o=some m
theorem kx.Ez {r:bt} {b:aN} {i:Nat} {m b3:cH} (h:kx ops r b i m) (ab:kx ops r b i b3):m=b3:=by
 obtain ⟨o,aa,ae⟩:=h
 obtain ⟨b1,aH,bf⟩:=ab
 rw [aa] at aH;cases aH
 rw [ae] at bf;cases bf
 rfl
theorem Bq {r:bt} {b:aN}:∀{is:List Nat} {ms:List cH},t_ ops r b is=some ms→oy (kx ops r b) is ms
 | [],ms,h=>by simp only [t_,Option.some.injEq] at h;subst h;exact .nil
 | i::is,ms,h=>by
   simp only [t_] at h
   cases aQ:ops[i]? with
   | none=>rw [aQ] at h;cases h
   | some o=>
     rw [aQ] at h
     simp only at h
     cases hm:sb ops r b o with
     | none=>rw [hm] at h;cases h
     | some m=>
       rw [hm] at h
       simp only at h
       cases aO:t_ ops r b is with
       | none=>rw [aO] at h;cases h
       | some agH=>
         rw [aO] at h
         simp only [Option.some.injEq] at h
         subst h
         exact .cons ⟨o,aQ,hm⟩ (Bq aO)
theorem Mx {x:Option Bool} (h:isFalse x=true):x=some false:=by
 cases x with
 | none=>cases h
 | some b=>cases b<;>simp_all [isFalse]
theorem Ds {e:dq} {m:cH}:∀{ms:List cH},zP e m ms=true→∀b3 ∈ ms,e.run m.k b3.k=some false∧e.run b3.k m.k=some false
 | [],_,b3,h=>by simp at h
 | x::xs,h,b3,hm=>by
   simp only [zP,Bool.and_eq_true] at h
   rcases List.mem_cons.1 hm with rfl | hm
   · exact ⟨Mx h.1,Mx h.2.1⟩
   · exact Ds h.2.2 b3 hm
theorem Jh {r:bt} {b:aN} {e:dq}:∀{is:List Nat} {ms:List cH},oy (kx ops r b) is ms→is.Nodup→xm e ms=true→∀i j m b3,i ∈ is→j ∈ is→i≠j→kx ops r b i m→kx ops r b j b3→e.run m.k b3.k=some false
 | _,_,.nil,_,_,i,_,_,_,aF,_,_,_,_=>by simp at aF
 | _,_,.cons (a:=x) (b:=dO) (GO:=xs) (GP:=abA) a6 ax,aS,bd,i,j,m,b3,aF,bK,nQ,hm,mu=>by
   simp only [xm,Bool.and_eq_true] at bd
   rw [List.nodup_cons] at aS
   have Mk:∀k n,k ∈ xs→kx ops r b k n→n ∈ abA:=by
    intro k n ay Xo
    have gen:∀{is:List Nat} {ms:List cH},oy (kx ops r b) is ms→k ∈ is→n ∈ ms:=by
     intro is ms ar
     induction ar with
     | nil=>intro ay;simp at ay
     | cons aa _ bj=>
       intro ay
       rcases List.mem_cons.1 ay with rfl | ay
       · rw [Xo.Ez aa];simp
       · exact List.mem_cons_of_mem _ (bj ay)
    exact gen ax ay
   rcases List.mem_cons.1 aF with Lu | aF
   · rcases List.mem_cons.1 bK with FC | bK
     · exact absurd (Lu.trans FC.symm) nQ
     · rw [Lu] at hm
       rw [hm.Ez a6]
       exact (Ds bd.1 b3 (Mk j b3 bK mu)).1
   · rcases List.mem_cons.1 bK with FC | bK
     · rw [FC] at mu
       rw [mu.Ez a6]
       exact (Ds bd.1 m (Mk i m aF hm)).2
     · exact Jh ax aS.2 bd.2 i j m b3 aF bK nQ hm mu
theorem Gw {iz:bt} {b:aN} {e:dq} {I:List Nat} (qI:∀i ∈ I,∃o A m,ops[i]? =some o∧lb o=some A∧(ys P A.t=true∧sd P A.t=e)∧sb ops iz b o=some m∧∃v H1 cG,(ck P al ops o).run call iz H1=.val v cG)
 (hz:∀i j m b3,i ∈ I→j ∈ I→i≠j→kx ops iz b i m→kx ops iz b j b3→e.run m.k b3.k=some false):
 ∀(τ:List Nat) (done:List Nat) (ds:List cH) (c:Nat) (H:af),(∀i ∈ τ,i ∈ I)→(∀i ∈ done,i ∈ I)→(done++τ).Nodup→(∀m ∈ ds,∃i ∈ done,∃b3,kx ops iz b i b3∧m.k=b3.k)→H.get b=.mp ds c→
  ∃es ms hi kV,(fq P al ops (hc ops τ)).run call iz H=.ok es iz kV∧kV.get b=.mp (ds++ms) hi∧(∀k,b≠k→kV.get k=H.get k)∧(∀k,kV.set b k=H.set b k)∧(∀e ∈ es,∀k,b≠k→e.h.get k=H.get k)∧
   oy (fun i (m:cH)=>∃b3,kx ops iz b i b3∧m.k=b3.k∧m.v=b3.v) τ ms
 | [],done,ds,c,H,_,_,_,_,kF=>⟨[],[],c,H,rfl,by rw [List.append_nil];exact kF,fun _ _=>rfl,fun _=>rfl,fun e he=>by simp at he,.nil⟩
 | i::τ,done,ds,c,H,Bm,Lm,mw,vB,kF=>by
   obtain ⟨o,A,m,aQ,m_,⟨vH,tH⟩,hm,v,H1,cG,cK⟩:=qI i (Bm i (by simp))
   obtain ⟨jG,K',ah,ay,ak⟩:=YD hm
   rw [m_] at K';cases K'
   have pS:i ∉ done:=fun h=>by
    rw [List.nodup_append] at mw
    exact mw.2.2 i h i (by simp) rfl
   have hC:=UR vH m_ cK ah H ds c kF (fun b3 mu=>by
    obtain ⟨j,bK,abr,W3,Xn⟩:=vB b3 mu
    rw [Xn,tH,←ay]
    exact hz i j m abr (Bm i (by simp)) (Lm j bK) (fun e=>pS (e ▸ bK)) ⟨o,aQ,hm⟩ W3)
   obtain ⟨_,aX,_⟩:=ym m_
   obtain ⟨es,ms,hi,kV,g1,g2,g3,g4,g6,g5⟩:=Gw qI hz τ (done++[i]) (ds++[⟨(bF A.k).run (dc iz (bZ ops o)),(bF A.x).run (dc iz (bZ ops o)),c⟩]) (c+1)
    (H.set b (.mp (ds++[⟨(bF A.k).run (dc iz (bZ ops o)),(bF A.x).run (dc iz (bZ ops o)),c⟩]) (c+1))) (fun j bK=>Bm j (by simp [bK]))
    (fun j bK=>by
      rcases List.mem_append.1 bK with h | h
      · exact Lm j h
      · simp only [List.mem_singleton] at h;subst h;exact Bm j (by simp)) (by simpa using mw)
    (fun b3 mu=>by
      rcases List.mem_append.1 mu with h | h
      · obtain ⟨j,bK,r⟩:=vB b3 h
        exact ⟨j,by simp [bK],r⟩
      · simp only [List.mem_singleton] at h;subst h
        exact ⟨i,by simp,m,⟨o,aQ,hm⟩,ay.symm⟩) (by rw [af.c0,if_pos rfl])
   have L2:=Cy (os:=hc ops τ) hC (by rw [aX];exact g1)
   rw [show o::hc ops τ=hc ops (i::τ) from by simp [hc,aQ]] at L2
   refine ⟨_,⟨(bF A.k).run (dc iz (bZ ops o)),(bF A.x).run (dc iz (bZ ops o)),c⟩::ms,hi,kV,L2,by rw [g2,List.append_assoc];rfl,fun k ay=>?_,fun k=>?_,fun c_ eE k ay=>?_,.cons ⟨m,⟨o,aQ,hm⟩,ay.symm,ak.symm⟩ g5⟩
   · rw [g3 k ay,af.c0,if_neg ay]
   · rw [g4]
     unfold af.set
     simp only [T.Ou]
   · rcases List.mem_cons.1 eE with rfl | eE
     · rfl
     · rw [g6 c_ eE k ay,af.c0,if_neg ay]
def pt (E:Env):List (V × V)→List MapEntry→Prop
 | [],l=>l=[]
 | p::a_,l=>∃e es,l=e::es∧Rel E p.1 e.key∧Rel E p.2 e.val∧pt E a_ es
theorem pt.perm {E:Env} {a_ jC:List (V × V)} (h:a_.Perm jC):∀{l:List MapEntry},pt E jC l→∃cE,pt E a_ cE∧cE.Perm l:=by
 induction h with
 | nil=>intro l h;exact ⟨l,h,.refl _⟩
 | cons x _ bj=>
   intro l h
   obtain ⟨e,es,rfl,aa,ae,aH⟩:=h
   obtain ⟨cE,g1,g2⟩:=bj aH
   exact ⟨e::cE,⟨e,cE,rfl,aa,ae,g1⟩,g2.cons e⟩
 | swap x y jg=>
   intro l h
   obtain ⟨e,es,rfl,aa,ae,c_,jn,rfl,aH,bf,cB⟩:=h
   exact ⟨c_::e::jn,⟨c_,_,rfl,aH,bf,e,jn,rfl,aa,ae,cB⟩,List.Perm.swap _ _ _⟩
 | trans _ _ Gs yl=>
   intro l h
   obtain ⟨fO,g1,g2⟩:=yl h
   obtain ⟨h7,g3,g4⟩:=Gs g1
   exact ⟨h7,g3,g4.trans g2⟩
theorem pt.NC {E:Env}:∀{ms:List cH} {l:List MapEntry},ek E ms l→pt E (ms.map fun m=>(m.k,m.v)) l
 | [],l,h=>h
 | m::ms,l,h=>by
   obtain ⟨e,es,rfl,aa,ae,_,bf⟩:=h
   exact ⟨e,es,rfl,aa,ae,pt.NC bf⟩
theorem mV.ND {E:Env}:∀{ms:List cH} {l:List MapEntry},pt E (ms.map fun m=>(m.k,m.v)) l→mV E ms l
 | [],l,h=>h
 | m::ms,l,h=>by
   obtain ⟨e,es,rfl,aa,ae,bf⟩:=h
   exact ⟨e,es,rfl,aa,ae,mV.ND bf⟩
theorem a1.forget {aq:Fr} {E:Env} {h:af} {w:World} (s:a1 aq E h w) {b:aN} {p:iJ} {es ms:List cH} {c:Nat} (aE:h.get b=.mp es c) (ag:E b=some p) (gF:(ms.map fun m=>(m.k,m.v)).Perm (es.map fun m=>(m.k,m.v))):
 a1 aq E (h.set b (.iW ms)) w:=by
 have ah:=s.at ag
 rw [aE] at ah
 obtain ⟨p',a,fN,c9,ba,hm⟩:=ah
 rw [ag] at fN;cases fN
 obtain ⟨l,g1,g2⟩:=pt.perm gF (pt.NC hm)
 exact s.set (by rw [aE];rfl) ag c9 (Nat.le_refl _) (fun _ _=>rfl) rfl rfl rfl (fun _ _ _ e=>by cases e) ⟨p,a,c,l,ag,c9,ba,mV.ND g1,g2⟩
theorem Mt:∀(l:List Oper),(∀o ∈ l,o.dst=none)→∀{r cL:bt} {h ar:af} {es:List eM},(fq P al ops l).run call r h=.ok es cL ar→∀o ∈ l,∃v H1 cG,(ck P al ops o).run call r H1=.val v cG
 | [],_,_,_,_,_,_,_,o,aQ=>by simp at aQ
 | x::xs,aX,r,cL,h,ar,es,he,o,aQ=>by
   obtain ⟨v,aa,hk,au,az,rfl⟩:=Cx he
   rcases List.mem_cons.1 aQ with rfl | aQ
   · exact ⟨v,h,aa,au⟩
   · rw [aX x (by simp)] at az
     exact Mt xs (fun b1 hn=>aX b1 (by simp [hn])) az o aQ
theorem abg {t:TypeId} {H H1:af} {c:aN} {off:Nat} (h:H.get c=H1.get c):(o3 P t).run H (.ptr c off)=(o3 P t).run H1 (.ptr c off):=by
 unfold o3
 cases aZ P t with
 | none=>rfl
 | some aL=>
   simp only
   cases aL.agg with
   | true=>simp only [cond_true,mE,V.iY,h]
   | false=>
     simp only [cond_false]
     cases Nat.beq aL.size 1 with
     | true=>simp only [cond_true,mF,V.iY,h]
     | false=>rfl
theorem UT {o:Oper} {t:TypeId} {x:Operand} (aQ:o.op=.load t x) (aE:o.guard=none) {r:bt} {H1 ab:af} {v:V} (he:(ck P al ops o).run call r H1=.val v ab) {c:aN} {off:Nat} (ak:(bF x).run (dc r (bZ ops o))=.ptr c off)
 (H:af) (kF:H.get c=H1.get c):(ck P al ops o).run call r H=.val v H:=by
 obtain ⟨aa,ae⟩:=j_ he
 have key:ck P al ops o=⟨iv none (fb P o) (bZ ops o)⟩:=by
  unfold ck
  rw [show (fe al o.dst&&kq (bZ ops o))=true from by rw [aa,ae];rfl,aE]
  rfl
 rw [key] at he ⊢
 simp only [iv] at he ⊢
 have tw:∀H,(fb P o).run call (dc r (bZ ops o)) H=aU.of H ((o3 P t).run H (.ptr c off)):=by
  intro H
  unfold fb
  rw [aQ]
  simp only [ak]
 rw [tw] at he ⊢
 rw [abg kF]
 exact aU.um he H
theorem M5 {es:List eM} {h:af} {b:aN}:∀{is:List Nat} {p:Nat},yB P ops es h b call al is p=true→∀q i o t x,is[q]? =some i→ops[i]? =some o→o.op=.load t x→
 ∃e c off ab,es[p+q]? =some e∧(bF x).run (dc e.r (bZ ops o))=.ptr c off∧c≠b∧o.guard=none∧(ck P al ops o).run call e.r h=.val e.v ab
 | [],_,_,q,i,o,t,x,h,_,_=>by simp at h
 | j::YP,p,ao,q,i,o,t,x,av,aQ,lQ=>by
   simp only [yB] at ao
   cases q with
   | succ q=>
     cases bK:ops[j]? with
     | none=>rw [bK] at ao;cases ao
     | some agO=>
       rw [bK] at ao
       simp only [Bool.and_eq_true] at ao
       have:=M5 ao.2 q i o t x (by simpa using av) aQ lQ
       rw [show p + (q+1)=p+1+q from by omega]
       exact this
   | zero=>
     simp only [List.getElem?_cons_zero,Option.some.injEq] at av
     subst av
     rw [aQ] at ao
     simp only [Bool.and_eq_true] at ao
     have aa:=ao.1
     rw [lQ] at aa
     simp only at aa
     rw [Nat.add_zero]
     cases he:es[p]? with
     | none=>rw [he] at aa;cases aa
     | some e=>
       rw [he] at aa
       simp only at aa
       cases ak:(bF x).run (dc e.r (bZ ops o))<;>rw [ak] at aa<;>simp only at aa<;>try (cases aa;done)
       rename_i c off
       simp only [Bool.and_eq_true,Bool.not_eq_true'] at aa
       cases aE:o.guard with
       | some _=>rw [aE] at aa;cases aa.2
       | none=>
         rw [aE] at aa
         simp only at aa
         have ae:=aa.2
         cases aG:(ck P al ops o).run call e.r h with
         | fail=>rw [aG] at ae;cases ae
         | cv _ _=>rw [aG] at ae;cases ae
         | val v ab=>
           rw [aG] at ae
           have br:=EP ae
           exact ⟨e,c,off,ab,rfl,ak,(fun e=>by rw [e,aN.xE] at aa;cases aa.1),rfl,by rw [aG,br]⟩
theorem wb {k:Nat}:∀{l:List Nat} {p:Nat},l.Nodup→l[p]? =some k→l.idxOf k=p
 | [],_,_,h=>by simp at h
 | x::xs,p,aS,h=>by
   rw [List.nodup_cons] at aS
   cases p with
   | zero=>
     simp only [List.getElem?_cons_zero,Option.some.injEq] at h
     subst h
     simp
   | succ p=>
     have ak:xs[p]? =some k:=by simpa using h
     have dJ:x≠k:=fun e=>aS.1 (e ▸ List.mem_of_getElem? ak)
     rw [List.idxOf_cons]
     simp only [beq_iff_eq,dJ,cond_false,show (x == k)=false from by simpa using dJ]
     rw [wb aS.2 ak]
def lV (ops:Array Oper) (i:Nat):Bool:=
 match ops[i]? with
 | some o=>kJ o
 | none=>false
theorem Bs {o:Oper} {A:uN} (h:lb o=some A):kJ o=true∧eP P o.op=true∧gw o=false:=by
 obtain ⟨aQ,_,_⟩:=ym h
 refine ⟨by unfold kJ;rw [aQ],by rw [aQ];rfl,by unfold gw;rw [aQ]⟩
theorem aa_ {aw:List Nat} {cu cz:Nat} {t:TypeId} (ar:yA P ops aw cu cz t=true):∀i o,ops[i]? =some o→∃cy,(eF [] ops.toList)[i]? =some cy∧lY i o=true∧
 (∀k ok,ops[k]? =some ok→∃mk,(eF [] ops.toList)[k]? =some mk∧oe i cy (bZ ops o) o.dst k mk ok (Nat.blt (posOf aw k) (posOf aw i))=true)∧
 (posOf aw i<cu→kJ o=false∧dU P o=false∧(looks o.op=true→eP P o.op=false→∃t x,o.op=.load t x))∧
 (¬posOf aw i<cu→posOf aw i<cz→∃A,lb o=some A∧A.t=t)∧
 (¬posOf aw i<cu→¬posOf aw i<cz→eP P o.op=false∧looks o.op=false):=by
 unfold yA at ar
 simp only [Bool.and_eq_true] at ar
 replace ar:=ar.2
 intro i o aF
 obtain ⟨cy,aa,ae⟩:=pg ar i o (by simpa using aF)
 simp only [Nat.zero_add,Bool.and_eq_true] at ae
 obtain ⟨⟨aH,bf⟩,cB⟩:=ae
 refine ⟨cy,aa,aH,fun k ok ay=>?_,fun aW=>?_,fun js aW=>?_,fun js W9=>?_⟩
 · obtain ⟨mk,bX,b'⟩:=pg bf k ok (by simpa using ay)
   simp only [Nat.zero_add] at b'
   exact ⟨mk,bX,b'⟩
 · rw [show Nat.blt (posOf aw i) cu=true from by rw [Nat.blt_eq];exact aW] at cB
   simp only [cond_true,Bool.and_eq_true,Bool.not_eq_true',Bool.or_eq_true] at cB
   refine ⟨cB.1.1,cB.1.2,fun ao he=>?_⟩
   rcases cB.2 with (h | h) | h
   · rw [ao] at h;cases h
   · rw [he] at h;cases h
   · cases lQ:o.op<;>rw [lQ] at h<;>simp only at h<;>first
      | (cases h;done)
      | exact ⟨_,_,rfl⟩
 · rw [show Nat.blt (posOf aw i) cu=false from by rw [←Bool.not_eq_true,Nat.blt_eq];exact js,show Nat.blt (posOf aw i) cz=true from by rw [Nat.blt_eq];exact aW] at cB
   simp only [cond_true,cond_false] at cB
   cases bd:lb o with
   | none=>rw [bd] at cB;cases cB
   | some A=>rw [bd] at cB;exact ⟨A,rfl,Nat.eq_of_beq_eq_true cB⟩
 · rw [show Nat.blt (posOf aw i) cu=false from by rw [←Bool.not_eq_true,Nat.blt_eq];exact js,show Nat.blt (posOf aw i) cz=false from by rw [←Bool.not_eq_true,Nat.blt_eq];exact W9] at cB
   simp only [cond_false,Bool.and_eq_true,Bool.not_eq_true'] at cB
   exact cB
theorem aba {order:List Nat} {es:List eM} {cu:Nat} {b:aN} {iz:bt} {A:uN} (h:BC ops order es cu=some (b,iz,A)):
 ∃e i o,es[cu]? =some e∧order[cu]? =some i∧ops[i]? =some o∧lb o=some A∧e.r=iz:=by
 unfold BC at h
 cases he:es[cu]? with
 | none=>rw [he] at h;cases h
 | some e=>
   rw [he] at h
   simp only at h
   cases aF:order[cu]? with
   | none=>rw [aF] at h;cases h
   | some i=>
     rw [aF] at h
     simp only at h
     cases aQ:ops[i]? with
     | none=>rw [aQ] at h;cases h
     | some o=>
       rw [aQ] at h
       simp only at h
       cases bd:lb o with
       | none=>rw [bd] at h;cases h
       | some jG=>
         rw [bd] at h
         simp only at h
         cases hm:(bF jG.m).run (dc e.r (bZ ops o))<;>rw [hm] at h<;>simp only at h<;>try (cases h;done)
         simp only [Option.some.injEq,Prod.mk.injEq] at h
         obtain ⟨_,ae,rfl⟩:=h
         exact ⟨e,i,o,rfl,rfl,aQ,bd,ae⟩
theorem Nc {r:bt} {b:aN} {f:Nat→V × V} (ar:∀i m,kx ops r b i m→f i=(m.k,m.v)):∀{is:List Nat} {ms:List cH},oy (fun i (m:cH)=>∃b3,kx ops r b i b3∧m.k=b3.k∧m.v=b3.v) is ms→ms.map (fun m=>(m.k,m.v))=is.map f
 | _,_,.nil=>rfl
 | _,_,.cons (a:=i) (b:=m) a6 ax=>by
   obtain ⟨b3,aa,ae,aH⟩:=a6
   simp only [List.map_cons,Nc ar ax,ar i b3 aa,ae,aH]
theorem wG {n:Nat} {order aw:List Nat} (gF:lq n order aw=true) {p i:Nat} (h:order[p]? =some i):posOf aw i=p∧i<n:=by
 unfold lq at gF
 simp only [Bool.and_eq_true,Nat.beq_eq] at gF
 obtain ⟨_,ae,_,bf⟩:=gF
 have:=sr bf h
 rw [Nat.zero_add] at this
 refine ⟨by unfold posOf;rw [this];rfl,?_⟩
 have:=(List.getElem?_eq_some_iff.1 this).1
 omega
theorem abS {l:List Nat} {f:Nat→Nat} (h:∀p i,l[p]? =some i→f i=p):l.Nodup:=by
 rw [List.Nodup,List.pairwise_iff_getElem]
 intro i j aF bK nQ he
 have aa:=h i _ (List.getElem?_eq_getElem aF)
 have ae:=h j _ (List.getElem?_eq_getElem bK)
 rw [he,ae] at aa
 omega
theorem oy.left {α β:Type} {R:α→β→Prop}:∀{fO:List α} {h7:List β},oy R fO h7→∀x ∈ fO,∃y ∈ h7,R x y
 | _,_,.nil,x,h=>by simp at h
 | _,_,.cons a6 ax,x,h=>by
   rcases List.mem_cons.1 h with rfl | h
   · exact ⟨_,by simp,a6⟩
   · obtain ⟨y,aa,ae⟩:=ax.left x h
     exact ⟨y,by simp [aa],ae⟩
theorem YL {o:Oper} (h:kJ o=true):eP P o.op=true∧gw o=false:=by
 unfold kJ at h
 unfold gw
 cases aQ:o.op<;>rw [aQ] at h<;>simp only at h<;>first
  | (cases h;done)
  | exact ⟨rfl,rfl⟩
theorem aeI {pre σ post:List Nat} (mw:(pre++(σ++post)).Nodup) (k q:Nat):(pre[q]? =some k→(pre++(σ++post)).idxOf k=q)∧(σ[q]? =some k→(pre++(σ++post)).idxOf k=pre.length+q)∧(post[q]? =some k→(pre++(σ++post)).idxOf k=pre.length+σ.length+q):=by
 refine ⟨fun h=>wb mw ?_,fun h=>wb mw ?_,fun h=>wb mw ?_⟩
 · have:=(List.getElem?_eq_some_iff.1 h).1
   rw [List.getElem?_append_left this]
   exact h
 · have:=(List.getElem?_eq_some_iff.1 h).1
   rw [List.getElem?_append_right (by omega),Nat.add_sub_cancel_left,List.getElem?_append_left this]
   exact h
 · rw [List.getElem?_append_right (by omega),List.getElem?_append_right (by omega)]
   rw [show pre.length+σ.length+q-pre.length-σ.length=q from by omega]
   exact h
theorem abc {rd:Option Nat} {D:List Deferred} {aq:Fr} {calls:Nat→dw} {es:List eM} {bQ:bt} {a6:af} {cL:bt} {ar:af} {ei order aw:List Nat} (bD:eI P) (cD:∀i,gz P (calls i)) (de:∀i,gN P (calls i))
 (C:Cert P al ops calls es bQ a6 cL ar ei order aw ops.size ops.size true) {gA:Env} {Q:Exit→Act→World→Prop}
 (c2:∀an bh aj,gA.le an→RegRel0 an al cL bh→bh.defers=D→a1 aq an ar aj→Q .normal bh aj) {rJ:List Nat}
 (eo:∀i k,lV ops i=true→lV ops k=true→posOf aw k<posOf aw i→∀a b,rJ=a++i::b→k ∈ a):
 ∀(fuel t:Nat) (listed:Array Bool) (done:List Nat) (a:Act) (w:World),rJ=done++Region.linearise.go .any ops fuel t listed []→(∀k,k<ops.size→(listed.getD k false=true↔k ∈ done))→
  (List.range ops.size).countP (fun i=>!listed.getD i false)≤fuel→ph P aq al ops es bQ ar ei aw gA ops.size D listed a w→wpOpsIn (ca rd) 0 P ops Q (Region.linearise.go .any ops fuel t listed []) a w:=by
 have h5:∀i o,ops[i]? =some o→lY i o=true:=fun i o h=>by obtain ⟨_,_,ae,_⟩:=C.ml i o h;exact ae
 have fin:∀(listed:Array Bool) (a:Act) (w:World),(∀k,k<ops.size→listed.getD k false=true)→ph P aq al ops es bQ ar ei aw gA ops.size D listed a w→Q .normal a w:=by
  intro listed a w ev I
  obtain ⟨an,g1,g2,g3,g4⟩:=Kc C (Nat.le_refl _) I fun k ay _=>ev k ay
  exact c2 an a w g1 g2 g3 g4
 intro fuel
 induction fuel with
 | zero=>
   intro t listed done a w oL FI aD I
   have a6:(List.range ops.size).countP (fun i=>!listed.getD i false)=0:=by omega
   rw [List.countP_eq_zero] at a6
   exact fin listed a w (fun k ay=>by simpa using a6 k (List.mem_range.2 ay)) I
 | succ fuel bj=>
   intro t listed done a w oL FI aD I
   rw [go_succ] at oL ⊢
   cases aG:uu ops t listed with
   | none=>exact fin listed a w (fun k ay=>wH h5 I.q3 (OF aG) k ay) I
   | some i=>
     rw [aG] at oL
     simp only at oL ⊢
     obtain ⟨i1,i2⟩:=uv I.q3 (HF aG)
     have ao:i<listed.size:=by rw [I.q3];exact i1
     have aga:=count_set I.q3 i1 i2
     rw [wpOpsIn_cons]
     refine Km bD cD de C I (HF aG) (C.hR i i1).1 (fun _ o k ok cb tG A6 Xm aW=>?_) (fun bh aj CU=>bj _ _ (done++[i]) bh aj (by rw [List.append_assoc];exact oL) (fun k ay=>?_) (by omega) CU) (fun _ _ _ _ _ _ _ h=>absurd h (Nat.lt_irrefl _))
     · have ay:k<ops.size:=(Array.getElem?_eq_some_iff.1 A6).1
       exact (FI k ay).2 (eo i k (by unfold lV;rw [cb];exact tG) (by unfold lV;rw [A6];exact Xm) aW _ _ oL)
     · rw [fx ao,FI k ay,List.mem_append,List.mem_singleton]
       exact Or.comm
noncomputable def EK (ops:Array Oper) (r:bt) (b:aN) (i:Nat):V × V:=
 match ops[i]? with
 | some o=>(match sb ops r b o with
   | some m=>(m.k,m.v)
   | none=>(.bad,.bad))
 | none=>(.bad,.bad)
theorem Ks {r:bt} {b:aN} {i:Nat} {m:cH} (h:kx ops r b i m):EK ops r b i=(m.k,m.v):=by
 obtain ⟨o,aa,ae⟩:=h
 unfold EK
 rw [aa]
 simp only [ae]
theorem Nd {r:bt} {b:aN}:∀{is:List Nat} {ms:List cH},oy (kx ops r b) is ms→ms.map (fun m=>(m.k,m.v))=is.map (EK ops r b)
 | _,_,.nil=>rfl
 | _,_,.cons a6 ax=>by
   simp only [List.map_cons,Nd ax,Ks a6]
set_option maxHeartbeats 1000000 in
theorem abe {rd:Option Nat} {aq:Fr} {E:Env} {h:af} {w:World} {id:Nat} (cO:P.follows .mixedOrders=true) (bD:eI P) (cD:gz P call) (de:gN P call) {r:bt} {a:Act} {order aw:List Nat} {cu cz:Nat} (gF:lq ops.size order aw=true)
 {Q:Exit→Act→World→Prop} (ag:mS aq E al (Q .normal) Q (GL P al ops order aw cu cz (fq P al ops (hc ops order)) call r h)) (k:fh E al r a) (s:a1 aq E h w):(Code.region id ops true).wpIn (ca rd) 0 P Q a w:=by
 unfold GL at ag
 cases cK:(fq P al ops (hc ops order)).run call r h with
 | fail=>rw [cK] at ag;exact ag.elim
 | cv _ _ _ _ _=>rw [cK] at ag;exact ag.elim
 | ok es fg ba=>
 rw [cK] at ag
 simp only at ag
 cases mv:BC ops order es cu with
 | none=>rw [mv] at ag;exact ag.elim
 | some x=>
 obtain ⟨b,iz,A⟩:=x
 rw [mv] at ag
 simp only at ag
 cases jT:(b2 es ba cu).get b<;>rw [jT] at ag<;>try (exact False.elim ag)
 rename_i U_ mh
 cases U_ with
 | cons _ _=>exact False.elim ag
 | nil=>
 simp only at ag
 cases vJ:t_ ops iz b ((order.drop cu).take (cz-cu)) with
 | none=>rw [vJ] at ag;exact ag.elim
 | some ms=>
 rw [vJ] at ag
 simp only at ag
 cases aD:(yA P ops aw cu cz A.t&&(xm (sd P A.t) ms&&(yB P ops es (b2 es ba cu) b call al (order.take cu) 0&&xG ((bF A.m).run fg) (.map b)))) with
 | false=>rw [aD] at ag;exact ag.elim
 | true=>
 rw [aD] at ag
 simp only [cond_true] at ag
 simp only [Bool.and_eq_true] at aD
 obtain ⟨A7,hz,eK,qO⟩:=aD
 have qO:=EP qO
 obtain ⟨nT,N0,agQ⟩:=NW gF
 have FT:order.Nodup:=abS fun p i h=>(wG gF h).1
 obtain ⟨cR,i0,iq,Fk,tF,XI,xK,W4⟩:=aba mv
 obtain ⟨ac_,-,-,-⟩:=sB cK
 have hlen:es.length=ops.size:=by rw [ac_,o6,nT]
 have ix:cu<ops.size:=by rw [←nT];exact (List.getElem?_eq_some_iff.1 tF).1
 have ml:=aa_ A7
 generalize pT:order.take cu=pre at eK
 generalize tG:(order.drop cu).take (cz-cu)=ins at vJ
 generalize LR:(order.drop cu).drop (cz-cu)=post
 have oS:order=pre++(ins++post):=by rw [←pT,←tG,←LR,List.take_append_drop,List.take_append_drop]
 have vO:pre.length=cu:=by rw [←pT,List.length_take];omega
 have agi:cu<cz:=by
  obtain ⟨tO,_⟩:=wG gF tF
  rcases Nat.lt_or_ge cu cz with h | h
  · exact h
  · exfalso
    obtain ⟨_,_,_,_,_,_,f3⟩:=ml i0 iq XI
    obtain ⟨ak,_⟩:=f3 (by omega) (by omega)
    rw [(Bs (P:=P) xK).2.1] at ak
    cases ak
 have Xh:ins.length=cz-cu∨post=[]:=by
  rcases Nat.lt_or_ge (cz-cu) (order.drop cu).length with h | h
  · left;rw [←tG,List.length_take];omega
  · right;rw [←LR];exact List.drop_eq_nil_of_le h
 have Dz:∀q i,pre[q]? =some i→posOf aw i=q∧i<ops.size∧q<cu:=by
  intro q i h
  have av:=(List.getElem?_eq_some_iff.1 h).1
  obtain ⟨aa,ae⟩:=wG gF (p:=q) (i:=i) (by rw [oS,List.getElem?_append_left av];exact h)
  exact ⟨aa,ae,by omega⟩
 have Dx:∀q i,ins[q]? =some i→posOf aw i=cu+q∧i<ops.size∧cu+q<cz:=by
  intro q i h
  have av:=(List.getElem?_eq_some_iff.1 h).1
  obtain ⟨aa,ae⟩:=wG gF (p:=cu+q) (i:=i) (by
   rw [oS,List.getElem?_append_right (by omega),vO,Nat.add_sub_cancel_left,List.getElem?_append_left av];exact h)
  refine ⟨aa,ae,?_⟩
  have:ins.length≤cz-cu:=by rw [←tG,List.length_take];omega
  omega
 have Dy:∀q i,post[q]? =some i→posOf aw i=cu+ins.length+q∧i<ops.size∧ins.length=cz-cu:=by
  intro q i h
  have ao:ins.length=cz-cu:=by
   rcases Xh with ab | ab
   · exact ab
   · rw [ab] at h;simp at h
  obtain ⟨aa,ae⟩:=wG gF (p:=cu+ins.length+q) (i:=i) (by
   rw [oS,List.getElem?_append_right (by omega),List.getElem?_append_right (by omega),vO,show cu+ins.length+q-cu-ins.length=q from by omega];exact h)
  exact ⟨aa,ae,ao⟩
 have P3:∀i,i<ops.size→(∃q:Nat,pre[q]? =some i)∨(∃q:Nat,ins[q]? =some i)∨∃q:Nat,post[q]? =some i:=by
  intro i aF
  have hm:i ∈ order:=List.mem_of_getElem? (N0 i aF).2
  rw [oS,List.mem_append,List.mem_append] at hm
  rcases hm with h | h | h
  · exact .inl (List.mem_iff_getElem?.1 h)
  · exact .inr (.inl (List.mem_iff_getElem?.1 h))
  · exact .inr (.inr (List.mem_iff_getElem?.1 h))
 have Hn:∀i o,i ∈ pre→ops[i]? =some o→kJ o=false∧dU P o=false∧(looks o.op=true→eP P o.op=false→∃t x,o.op=.load t x):=by
  intro i o aF aQ
  obtain ⟨q,av⟩:=List.mem_iff_getElem?.1 aF
  obtain ⟨aa,ae,aH⟩:=Dz q i av
  obtain ⟨_,_,_,_,f1,_,_⟩:=ml i o aQ
  exact f1 (by omega)
 have yn:∀i,i ∈ ins→∃o jG,ops[i]? =some o∧lb o=some jG∧jG.t=A.t:=by
  intro i aF
  obtain ⟨q,av⟩:=List.mem_iff_getElem?.1 aF
  obtain ⟨aa,ae,aH⟩:=Dx q i av
  obtain ⟨_,_,_,_,_,f2,_⟩:=ml i _ (Array.getElem?_eq_getElem ae)
  obtain ⟨jG,g1,g2⟩:=f2 (by omega) (by omega)
  exact ⟨_,jG,Array.getElem?_eq_getElem ae,g1,g2⟩
 have yZ:∀i o,i ∈ post→ops[i]? =some o→eP P o.op=false∧looks o.op=false:=by
  intro i o aF aQ
  obtain ⟨q,av⟩:=List.mem_iff_getElem?.1 aF
  obtain ⟨aa,ae,aH⟩:=Dy q i av
  obtain ⟨_,_,_,_,_,_,f3⟩:=ml i o aQ
  exact f3 (by omega) (by omega)
 have Gt:∀i,i<ops.size→(lV ops i=true↔i ∈ ins):=by
  intro i aF
  have cb:ops[i]? =some ops[i]:=Array.getElem?_eq_getElem aF
  constructor
  · intro h
    unfold lV at h
    rw [cb] at h
    simp only at h
    rcases P3 i aF with ⟨q,av⟩ | ⟨q,av⟩ | ⟨q,av⟩
    · rw [(Hn i _ (List.mem_of_getElem? av) cb).1] at h;cases h
    · exact List.mem_of_getElem? av
    · have:=(yZ i _ (List.mem_of_getElem? av) cb).1
      rw [(YL (P:=P) h).1] at this
      cases this
  · intro h
    obtain ⟨o,jG,g1,g2,_⟩:=yn i h
    unfold lV
    rw [g1]
    exact (Bs (P:=P) g2).1
 have FU:ins.Nodup:=by
  rw [oS] at FT
  exact (List.nodup_append.1 (List.nodup_append.1 FT).2.1).1
 have x_:=cK
 rw [oS,yP,yP] at x_
 obtain ⟨hk,bS,aa,Va,qT,LU,nO⟩:=H' _ _ x_
 obtain ⟨pC,b7,ae,ER,k_,XT,agb⟩:=H' _ _ LU
 obtain ⟨fO,-,-,-⟩:=sB qT
 rw [o6,vO] at fO
 obtain ⟨-,bT,bP,-⟩:=sB LU
 have Lo:Va[0]? =some cR:=by
  rw [nO,List.getElem?_append_right (by omega),fO,Nat.sub_self] at Fk
  exact Fk
 have XV:bS=iz:=by
  unfold dY at bP
  rw [Lo] at bP
  exact bP.symm.trans W4
 have Xc:b2 es ba cu=aa:=by
  unfold b2 at bT ⊢
  rw [Fk]
  rw [Lo] at bT
  exact bT
 subst XV
 rw [Xc] at jT eK
 have qI:∀i ∈ ins,∃o jG m,ops[i]? =some o∧lb o=some jG∧(ys P jG.t=true∧sd P jG.t=sd P A.t)∧sb ops bS b o=some m∧∃v H1 cG,(ck P al ops o).run call bS H1=.val v cG:=by
  intro i aF
  obtain ⟨o,jG,g1,g2,g3⟩:=yn i aF
  obtain ⟨m,_,b1,g4,g5⟩:=(Bq vJ).left i aF
  rw [g1] at g4;cases g4
  refine ⟨o,jG,m,g1,g2,⟨by rw [g3];unfold yA at A7;rw [Bool.and_eq_true] at A7;exact A7.1,by rw [g3]⟩,g5,Mt (hc ops ins) (fun bR vL=>?_) k_ o ?_⟩
  · obtain ⟨q,av⟩:=List.mem_iff_getElem?.1 vL
    have r8:q<ins.length:=by rw [←o6 (ops:=ops)];exact (List.getElem?_eq_some_iff.1 av).1
    obtain ⟨dX,dt,yq,ua,_⟩:=yn _ (List.getElem_mem r8)
    have:=mH (List.getElem?_eq_getElem r8) yq
    rw [av] at this;cases this
    exact (ym ua).2.1
  · obtain ⟨q,av⟩:=List.mem_iff_getElem?.1 aF
    exact List.mem_of_getElem? (mH av g1)
 have AT:=Jh (Bq vJ) FU hz
 obtain ⟨afY,agI,afR,l',E1,af2,af3,VG,_,af4⟩:=Gw qI AT ins [] [] mh aa (fun i aF=>aF) (fun i aF=>by simp at aF) (by simpa using FU) (fun m hm=>by simp at hm) jT
 rw [k_] at E1
 simp only [pj.ok.injEq] at E1
 obtain ⟨-,XS,Wm⟩:=E1
 subst XS Wm
 obtain ⟨FB,XR⟩:=OC (hc ops post) (fun bR vL=>by
  obtain ⟨q,av⟩:=List.mem_iff_getElem?.1 vL
  have r8:q<post.length:=by rw [←o6 (ops:=ops)];exact (List.getElem?_eq_some_iff.1 av).1
  obtain ⟨_,Lv,_⟩:=Dy q _ (List.getElem?_eq_getElem r8)
  have:=mH (List.getElem?_eq_getElem r8) (Array.getElem?_eq_getElem Lv)
  rw [av] at this;cases this
  exact yZ _ _ (List.getElem_mem r8) (Array.getElem?_eq_getElem Lv)) XT
 subst FB
 refine wpIn_region_draw fun t=>?_
 simp only [Region.schedule,cO,Bool.true_or,if_true]
 have h5:∀i o,ops[i]? =some o→lY i o=true:=fun i o h=>by obtain ⟨_,_,ae,_⟩:=ml i o h;exact ae
 have cZ:∀k,¬(Array.replicate ops.size false).getD k false=true:=by
  intro k
  rw [rW,Array.getElem?_replicate]
  split<;>simp
 obtain ⟨s1,s2,kQ⟩:=K3 (ops:=ops) h5 ops.size t (Array.replicate ops.size false) (by simp) (Nat.le_trans List.countP_le_length (by simp))
 change wpOpsIn (ca rd) 0 P ops Q (Region.linearise.go .any ops ops.size t (Array.replicate ops.size false) []) a {w with drawn:=w.drawn+1}
 generalize oL:Region.linearise.go .any ops ops.size t (Array.replicate ops.size false) []=rJ at s1 s2 kQ
 generalize nX:rJ.filter (lV ops)=σ
 have GY:∀k,k ∈ σ↔k ∈ ins:=by
  intro k
  rw [←nX,List.mem_filter]
  constructor
  · rintro ⟨g1,g2⟩
    exact (Gt k (s2 k g1).1).1 g2
  · intro g
    obtain ⟨q,av⟩:=List.mem_iff_getElem?.1 g
    have ay:=(Dx q k av).2.1
    refine ⟨?_,(Gt k ay).2 g⟩
    rcases kQ k ay with h | h
    · exact absurd h (cZ k)
    · exact h
 have LK:σ.Nodup:=by rw [←nX];exact s1.filter _
 have F3:σ.Perm ins:=(List.perm_ext_iff_of_nodup LK FU).2 GY
 have Me:σ.length=ins.length:=F3.length_eq
 have k':(pre++(σ++post)).Perm order:=by
  rw [oS]
  exact (F3.append_right post).append_left pre
 have FV:(pre++(σ++post)).Nodup:=k'.nodup_iff.2 FT
 have xZ:(pre++(σ++post)).length=ops.size:=by rw [k'.length_eq,nT]
 have zU:=aeI FV
 generalize XN:(List.range ops.size).map (fun k=>(pre++(σ++post)).idxOf k)=kn
 have vN:∀k,k<ops.size→posOf kn k=(pre++(σ++post)).idxOf k:=by
  intro k ay
  rw [←XN]
  unfold posOf
  rw [List.getElem?_map,List.getElem?_range ay]
  rfl
 have yU:∀i,i<ops.size→i ∈ pre→posOf kn i=posOf aw i∧posOf aw i<cu:=by
  intro i aF hm
  obtain ⟨q,av⟩:=List.mem_iff_getElem?.1 hm
  obtain ⟨g1,_,g3⟩:=Dz q i av
  rw [vN i aF,(zU i q).1 av,g1]
  exact ⟨rfl,g3⟩
 have yT:∀i,i<ops.size→i ∈ ins→∃q:Nat,σ[q]? =some i∧posOf kn i=cu+q∧q<ins.length∧cu≤posOf aw i∧posOf aw i<cu+ins.length:=by
  intro i aF hm
  obtain ⟨q,av⟩:=List.mem_iff_getElem?.1 ((GY i).2 hm)
  obtain ⟨ew,oV⟩:=List.mem_iff_getElem?.1 hm
  obtain ⟨g1,_,g3⟩:=Dx ew i oV
  have:=(List.getElem?_eq_some_iff.1 av).1
  have:=(List.getElem?_eq_some_iff.1 oV).1
  exact ⟨q,av,by rw [vN i aF,(zU i q).2.1 av,vO],by omega,by omega,by omega⟩
 have Hh:∀i,i<ops.size→i ∈ post→posOf kn i=posOf aw i∧cu+ins.length≤posOf aw i:=by
  intro i aF hm
  obtain ⟨q,av⟩:=List.mem_iff_getElem?.1 hm
  obtain ⟨g1,_,_⟩:=Dy q i av
  rw [vN i aF,(zU i q).2.2 av,g1,Me,vO]
  exact ⟨rfl,by omega⟩
 have cls:∀i,i<ops.size→i ∈ pre∨i ∈ ins∨i ∈ post:=by
  intro i aF
  rcases P3 i aF with ⟨q,av⟩ | ⟨q,av⟩ | ⟨q,av⟩
  · exact .inl (List.mem_of_getElem? av)
  · exact .inr (.inl (List.mem_of_getElem? av))
  · exact .inr (.inr (List.mem_of_getElem? av))
 obtain ⟨tk,agJ,Eo,w6,KV,VH,VI,VJ,VL,VK⟩:=Gw qI AT σ [] [] mh aa (fun i aF=>(GY i).1 aF) (fun i aF=>by simp at aF) (by simpa using LK) (fun m hm=>by simp at hm) jT
 obtain ⟨vf,XU⟩:=XR w6
 have LZ:=H_ _ _ qT (H_ _ _ KV XU)
 rw [←yP,←yP] at LZ
 obtain ⟨aaF,-,-,-⟩:=sB KV
 rw [o6,Me] at aaF
 obtain ⟨cm,z2,z3,z4⟩:=sB LZ
 rw [o6,xZ] at cm
 have N1:∀k,k<ops.size→posOf kn k<ops.size∧(pre++(σ++post))[posOf kn k]? =some k:=by
  intro k ay
  have hm:k ∈ pre++(σ++post):=k'.mem_iff.2 (List.mem_of_getElem? (N0 k ay).2)
  obtain ⟨q,av⟩:=List.mem_iff_getElem?.1 hm
  have F5:=wb FV av
  rw [vN k ay,F5]
  have:=(List.getElem?_eq_some_iff.1 av).1
  exact ⟨by omega,av⟩
 have acA:∀p,p<ops.size→∃i,i<ops.size∧posOf kn i=p:=by
  intro p ag
  have av:(pre++(σ++post))[p]? =some ((pre++(σ++post))[p]'(by omega)):=List.getElem?_eq_getElem _
  have hm:(pre++(σ++post))[p]'(by omega) ∈ order:=k'.mem_iff.1 (List.getElem_mem _)
  obtain ⟨q,vQ⟩:=List.mem_iff_getElem?.1 hm
  have aW:=(wG gF vQ).2
  exact ⟨_,aW,by rw [vN _ aW];exact wb FV av⟩
 have JU:∀j o,ops[j]? =some o→dU P o=true→j ∈ ins:=by
  intro j o aQ lK
  rcases cls j (Array.getElem?_eq_some_iff.1 aQ).1 with h | h | h
  · rw [(Hn j o h aQ).2.1] at lK;cases lK
  · exact h
  · unfold dU at lK
    rw [(yZ j o h aQ).1] at lK
    cases lK
 have Gu:∀k ok,k ∈ ins→ops[k]? =some ok→ok.dst=none∧kJ ok=true:=by
  intro k ok ay bA
  obtain ⟨o,jG,g1,g2,_⟩:=yn k ay
  rw [bA] at g1;cases g1
  exact ⟨(ym g2).2.1,(Bs (P:=P) g2).1⟩
 have RQ:∀st,st=ops.size∨(∃k,k<ops.size∧k ∈ ins∧st=posOf kn k)→∀c,b≠c→(b2 (hk++(tk++vf)) w6 st).get c=aa.get c:=by
  rintro st (rfl | ⟨k,ay,gv,rfl⟩) c aD
  · unfold b2
    rw [List.getElem?_eq_none (by omega)]
    exact VI c aD
  · obtain ⟨q,_,g2,g3,_⟩:=yT k ay gv
    have F6:q<tk.length:=by omega
    unfold b2
    rw [g2,List.getElem?_append_right (by omega),fO,Nat.add_sub_cancel_left,List.getElem?_append_left F6,List.getElem?_eq_getElem F6]
    exact VL _ (List.getElem_mem F6) c aD
 have C:Cert P al ops (fun _=>call) (hk++(tk++vf)) r h fg w6 (ht P kn 0 ops.toList) (pre++(σ++post)) kn ops.size ops.size true:=by
  refine ⟨cm,Nat.le_refl _,Nat.le_refl _,N1,acA,z2,z3,?_,?_,?_,?_,?_,?_,fun h=>absurd h (Nat.lt_irrefl _),fun h=>absurd h (Nat.lt_irrefl _)⟩
  · intro i o aQ _
    exact z4 _ o (mH (N1 i (Array.getElem?_eq_some_iff.1 aQ).1).2 aQ)
  · intro i o cb
    obtain ⟨cy,f1,f2,f3,_⟩:=ml i o cb
    refine ⟨cy,f1,f2,fun _ k ok bA _=>?_⟩
    obtain ⟨mk,f4,f5⟩:=f3 k ok bA
    have aF:i<ops.size:=(Array.getElem?_eq_some_iff.1 cb).1
    have ay:k<ops.size:=(Array.getElem?_eq_some_iff.1 bA).1
    refine ⟨mk,f4,?_,fun he lK aW=>?_⟩
    · by_cases gv:k ∈ ins
      · unfold oe
        rw [(Gu k ok gv bA).1]
        simp
      · have ah:Nat.blt (posOf kn k) (posOf kn i)=Nat.blt (posOf aw k) (posOf aw i):=by
         rw [Bool.eq_iff_iff,Nat.blt_eq,Nat.blt_eq]
         rcases cls k ay with aD | aD | aD
         · obtain ⟨bE,a2⟩:=yU k ay aD
           rcases cls i aF with aX | aX | aX
           · obtain ⟨cx,cn⟩:=yU i aF aX;omega
           · obtain ⟨q,_,cn,hZ,kZ,lE⟩:=yT i aF aX;omega
           · obtain ⟨cx,cn⟩:=Hh i aF aX;omega
         · exact absurd aD gv
         · obtain ⟨bE,a2⟩:=Hh k ay aD
           rcases cls i aF with aX | aX | aX
           · obtain ⟨cx,cn⟩:=yU i aF aX;omega
           · obtain ⟨q,_,cn,hZ,kZ,lE⟩:=yT i aF aX;omega
           · obtain ⟨cx,cn⟩:=Hh i aF aX;omega
        rw [ah]
        exact f5
    · have gv:=JU k ok bA lK
      obtain ⟨agS,_,cn,hZ,kZ,lE⟩:=yT k ay gv
      rcases cls i aF with aX | aX | aX
      · obtain ⟨bE,a2⟩:=yU i aF aX;omega
      · exact .inr ⟨rfl,(Gu i o aX cb).2,(Gu k ok gv bA).2⟩
      · rw [(yZ i o aX cb).1] at he;cases he
  · have:=Bz (P:=P) (aw:=kn) (l:=ops.toList) (i:=0)
    simpa using this
  · intro j o g1 g2
    have:=wj (P:=P) (aw:=kn) (i:=0) (j:=j) (l:=ops.toList) (o:=o) (by simpa using g1) g2
    simpa using this
  · intro st ct
    rcases se ct with h | ⟨j,o,g1,g2,g3⟩
    · exact .inl (.inl (by simpa using h))
    · exact .inr ⟨j,o,by simpa using g1,g2,by simpa using g3⟩
  · intro j o pP ao he _
    have bK:j<ops.size:=(Array.getElem?_eq_some_iff.1 pP).1
    have nd:j ∈ pre:=by
     rcases cls j bK with aX | aX | aX
     · exact aX
     · obtain ⟨b1,jG,g1,g2,_⟩:=yn j aX
       rw [pP] at g1;cases g1
       rw [(Bs (P:=P) g2).2.1] at he;cases he
     · rw [(yZ j o aX pP).2] at ao;cases ao
    obtain ⟨rn,Iu,lQ⟩:=(Hn j o nd pP).2.2 ao he
    obtain ⟨q,av⟩:=List.mem_iff_getElem?.1 nd
    obtain ⟨bE,_,a3⟩:=Dz q j av
    obtain ⟨e,c,off,ab,eR,fR,y3,y4,Iv⟩:=M5 eK q j o rn Iu av pP lQ
    have W1:(hk++(tk++vf))[posOf kn j]? =some e:=by
     rw [(yU j bK nd).1,bE,List.getElem?_append_left (by omega)]
     rw [Nat.zero_add,nO,List.getElem?_append_left (by omega)] at eR
     exact eR
    refine ⟨e,W1,fun st ct _=>⟨call,_,⟨cD,de⟩,UT lQ y4 Iv fR _ (RQ st ?_ c fun h=>y3 h.symm)⟩⟩
    rcases se ct with h | ⟨bp,b1,g1,g2,g3⟩
    · exact .inl (by simpa using h)
    · have A':ops[bp]? =some b1:=by simpa using g1
      exact .inr ⟨bp,(Array.getElem?_eq_some_iff.1 A').1,JU bp b1 A' g2,by simpa using g3⟩
 have k5:∀(an:Env) (bh:Act),E.le an→bh.defers=a.defers→∀(bq:bt),T.get .bad eN bq=T.get .bad eN r→kT an (T.get .bad eN bq) bh.defers:=fun an bh he aX bq qS=>by rw [qS,aX];exact k.defers.mono he
 have AY:T.get .bad eN fg=T.get .bad eN r:=by
  have:=C.EE ops.size (Nat.le_refl _)
  have FW:(hk++(tk++vf))[ops.size]? =none:=List.getElem?_eq_none (by omega)
  unfold dY at this
  rw [FW] at this
  exact this
 have jV:Holds aq aq (hk++(tk++vf)) w6 kn (jK ops (hk++(tk++vf)) w6 kn (Array.replicate ops.size false) 0):=
  ⟨rfl,fun _ _=>rfl,fun k ay=>(by obtain ⟨_,_,_,_,a6⟩:=ay;omega),fun k bp ay=>(by obtain ⟨_,_,_,_,a6⟩:=ay;omega)⟩
 obtain ⟨fY,ej,g1,g2,g3,g4,g5,g6⟩:=C.advance ops.size 0 (by omega) (fun k o _ _ _=>cZ k) aq jV (E:=E) (w:={w with drawn:=w.drawn}) (by rw [C.a6];exact s.same rfl rfl rfl rfl)
 rw [←oL]
 refine abc (aq:=aq) bD (fun _=>cD) (fun _=>de) C (gA:=E) (D:=a.defers) (rJ:=rJ) (fun an bh aj au az aM bU=>?_) (fun i k aF ay aW bh bH na=>?_) ops.size t _ [] a _ (by rw [oL];rfl) (fun k _=>⟨fun h=>absurd h (cZ k),fun h=>by simp at h⟩) (Nat.le_trans List.countP_le_length (by simp)) ?_
 · refine ag an bh aj au ⟨az,k5 an bh au aM fg AY⟩ ?_
   have jX:=dx az A.m
   rw [qO] at jX
   simp only [Rel] at jX
   obtain ⟨p,Wl,_⟩:=jX
   rw [VG,←VJ]
   refine bU.forget VH Wl ?_
   rw [List.nil_append,Nd (Bq vJ),Nc (fun i m h=>Ks h) VK]
   exact F3.symm.map _
 · have nc:i<ops.size:=by
    unfold lV at aF
    cases aQ:ops[i]? with
    | none=>rw [aQ] at aF;cases aF
    | some o=>exact (Array.getElem?_eq_some_iff.1 aQ).1
   have FD:k<ops.size:=by
    unfold lV at ay
    cases aQ:ops[k]? with
    | none=>rw [aQ] at ay;cases ay
    | some o=>exact (Array.getElem?_eq_some_iff.1 aQ).1
   have gv:=(Gt k FD).1 ay
   have Md:σ=bh.filter (lV ops)++i::bH.filter (lV ops):=by rw [←nX,na,List.filter_append,List.filter_cons_of_pos aF]
   have ju:posOf kn i=cu + (bh.filter (lV ops)).length:=by
    rw [vN i nc,(zU i (bh.filter (lV ops)).length).2.1 (by rw [Md,List.getElem?_append_right (Nat.le_refl _),Nat.sub_self];rfl),vO]
   obtain ⟨q,av,Ba,_⟩:=yT k FD gv
   have r8:q < (bh.filter (lV ops)).length:=by omega
   rw [Md,List.getElem?_append_left r8] at av
   exact (List.mem_filter.1 (List.mem_of_getElem? av)).1
 · refine ⟨by simp,k.size,rfl,fun bp ay=>absurd ay (cZ bp),fun bp o e ay=>absurd ay (cZ bp),E,fY,ej,Env.le.refl E,g1,g3,fun bp o aa ae=>⟨fun h=>absurd h (cZ bp),fun h=>by have:=g4 bp o aa ae (Nat.zero_le _);omega⟩,
    fun bp o _ _ h=>absurd h (cZ bp),g5,?_,fun t ax=>.inr ⟨fun bp o ay=>absurd ay (cZ bp),k.aJ t ax⟩⟩
   exact g6.same rfl rfl rfl rfl
theorem UX {rd:Option Nat} {aq:Fr} {E:Env} {h:af} {w:World} {id:Nat} (cO:P.follows .mixedOrders=true) (bD:eI P) (cD:gz P call) (de:gN P call) {r:bt} {a:Act}
 {Q:Exit→Act→World→Prop} (ag:mS aq E al (Q .normal) Q ((EB P al ops).run call r h)) (k:fh E al r a) (s:a1 aq E h w):(Code.region id ops true).wpIn (ca rd) 0 P Q a w:=by
 unfold EB at ag
 generalize yR P ops=order at ag
 generalize B7 order 0 ops.toList=aw at ag
 unfold Kk at ag
 cases ar:(lq ops.size order aw&&vb P ops aw) with
 | false=>
   rw [ar] at ag
   simp only [cond_false] at ag
   cases iM:(lq ops.size order aw&&zg P ops order aw) with
   | false=>
     rw [iM] at ag
     simp only [cond_false] at ag
     cases Ft:lq ops.size order aw with
     | false=>rw [Ft] at ag;exact ag.elim
     | true=>
       rw [Ft] at ag
       simp only [cond_true] at ag
       exact abe cO bD cD de Ft ag k s
   | true=>
     rw [iM] at ag
     simp only [cond_true] at ag
     simp only [Bool.and_eq_true] at iM
     exact UY cO bD cD de iM.1 iM.2 ag k s
 | true=>
   rw [ar] at ag
   simp only [cond_true] at ag
   simp only [Bool.and_eq_true] at ar
   obtain ⟨gF,g'⟩:=ar
   unfold lq at gF
   simp only [Bool.and_eq_true,Nat.beq_eq] at gF
   obtain ⟨nT,vL,x1,x2⟩:=gF
   have hR:∀k,k<ops.size→posOf aw k<ops.size∧order[posOf aw k]? =some k:=by
    intro k ay
    have aE:aw[k]? =some (posOf aw k):=by
     unfold posOf
     rw [List.getElem?_eq_getElem (by omega)]
     rfl
    have:=sr x1 aE
    rw [Nat.zero_add] at this
    exact ⟨by have:=(List.getElem?_eq_some_iff.1 this).1;omega,this⟩
   have kO:∀p,p<ops.size→∃i,i<ops.size∧posOf aw i=p:=by
    intro p ag
    have aE:order[p]? =some (order[p]'(by omega)):=List.getElem?_eq_getElem (by omega)
    have:=sr x2 aE
    rw [Nat.zero_add] at this
    refine ⟨order[p]'(by omega),by have:=(List.getElem?_eq_some_iff.1 this).1;omega,?_⟩
    unfold posOf
    rw [this]
    rfl
   have H9:∀j o,ops[j]? =some o→dU P o=true→posOf aw j ∈ ht P aw 0 ops.toList:=fun j o aa ae=>by simpa using wj (aw:=aw) (i:=0) (j:=j) (l:=ops.toList) (by simpa using aa) ae
   have aej:ops.size ∈ ht P aw 0 ops.toList:=by simpa using Bz (P:=P) (aw:=aw) (l:=ops.toList) (i:=0)
   have Pm:∀N M,∀s ∈ ht P aw 0 ops.toList,(s=ops.size∨(s=N∧M=N))∨∃k o,ops[k]? =some o∧dU P o=true∧s=posOf aw k:=fun N M s aO=>by
    rcases se aO with h | ⟨j,o,aa,ae,aH⟩
    · exact .inl (.inl (by simpa using h))
    · exact .inr ⟨j,o,by simpa using aa,ae,by simpa using aH⟩
   have Lq:∀i o,ops[i]? =some o→∃cy,(eF [] ops.toList)[i]? =some cy∧lY i o=true∧(posOf aw i<ops.size→
    ∀k ok,ops[k]? =some ok→posOf aw k<ops.size→∃mk,(eF [] ops.toList)[k]? =some mk∧oe i cy (bZ ops o) o.dst k mk ok (Nat.blt (posOf aw k) (posOf aw i))=true∧(eP P o.op=true→dU P ok=true→posOf aw k<posOf aw i→fF cy k=true∨(false=true∧kJ o=true∧kJ ok=true))):=by
    intro i o aF
    obtain ⟨cy,g1,g2,g3⟩:=Kj g' i o aF
    exact ⟨cy,g1,g2,fun _ k ok ay _=>by
     obtain ⟨mk,eR,fR,y3⟩:=g3 k ok ay
     exact ⟨mk,eR,fR,fun a b c=>.inl (y3 a b c)⟩⟩
   have main:∀(q:zp),
    (∀es nP N,es.length=N→N≤ops.size→(∀i o,ops[i]? =some o→posOf aw i<N→∃e,es[posOf aw i]? =some e∧(ck P al ops o).run call e.r e.h=.val e.v (b2 es nP (posOf aw i+1)))→
      (N<ops.size→∃i0 iq,ops[i0]? =some iq∧posOf aw i0=N∧dU P iq=true)→q.run call es nP=true→∀j o,ops[j]? =some o→looks o.op=true→eP P o.op=false→posOf aw j<N→∃e,es[posOf aw j]? =some e∧∀s ∈ ht P aw 0 ops.toList,
      q4 P (eF [] ops.toList) ops.toList aw j (((eF [] ops.toList)[j]?).getD 0) s=true→∃ab,(ck P al ops o).run call e.r (b2 es nP s)=.val e.v ab)→
    mS aq E al (Q .normal) Q (Ai ops order aw (fq P al ops (hc ops order)) q call r h)→(Code.region id ops true).wpIn (ca rd) 0 P Q a w:=by
    intro q r1 cK
    unfold Ai at cK
    cases ct:(fq P al ops (hc ops order)).run call r h with
    | fail=>rw [ct] at cK;exact cK.elim
    | ok es fg ba=>
      rw [ct] at cK
      simp only at cK
      cases av:q.run call es ba with
      | false=>rw [av] at cK;exact cK.elim
      | true=>
        rw [av] at cK
        simp only [cond_true] at cK
        obtain ⟨au,az,aM,bU⟩:=sB ct
        have hlen:es.length=ops.size:=by rw [au,o6,nT]
        have hC:∀i o,ops[i]? =some o→posOf aw i<ops.size→∃e,es[posOf aw i]? =some e∧(ck P al ops o).run call e.r e.h=.val e.v (b2 es ba (posOf aw i+1))∧dY es fg (posOf aw i+1)=(ft o.dst).run e.r e.v:=
         fun i o aQ _=>bU _ o (mH (hR i (Array.getElem?_eq_some_iff.1 aQ).1).2 aQ)
        have C:Cert P al ops (fun _=>call) es r h fg ba (ht P aw 0 ops.toList) order aw ops.size ops.size false:=
         ⟨hlen,Nat.le_refl _,Nat.le_refl _,hR,kO,az,aM,hC,Lq,aej,H9,Pm _ _,
           fun j o aa ae aH bf=>by
            obtain ⟨e,g1,g2⟩:=r1 es ba _ hlen (Nat.le_refl _) (fun i o aQ aF=>by obtain ⟨e,cm,z2,_⟩:=hC i o aQ aF;exact ⟨e,cm,z2⟩) (fun h=>by omega) av j o aa ae aH bf
            exact ⟨e,g1,fun s aO hm=>by obtain ⟨ab,g3⟩:=g2 s aO hm;exact ⟨_,ab,⟨cD,de⟩,g3⟩⟩,
           fun h=>absurd h (Nat.lt_irrefl _),fun h=>absurd h (Nat.lt_irrefl _)⟩
        exact ED cO bD cD de k s C (fun _=>cK) (fun _ _ _ _ _ _ _ h=>absurd h (Nat.lt_irrefl _)) (fun h=>absurd h (Nat.lt_irrefl _))
    | cv es fg ba v ab=>
      rw [ct] at cK
      simp only at cK
      cases av:(Hi ops order aw es.length&&q.run call es ba) with
      | false=>rw [av] at cK;exact cK.elim
      | true=>
        rw [av] at cK
        simp only [cond_true] at cK
        simp only [Bool.and_eq_true] at av
        obtain ⟨tP,av⟩:=av
        obtain ⟨az,aM,bU,iq,ey,fP,j3⟩:=Pn ct
        have aW:es.length<ops.size:=by
         have:=(List.getElem?_eq_some_iff.1 ey).1
         rw [o6,nT] at this
         exact this
        obtain ⟨i0,tF,ju⟩:=kO es.length aW
        have cb:ops[i0]? =some ops[i0]:=Array.getElem?_eq_getElem tF
        have oS:=(hR i0 tF).2
        rw [ju] at oS
        have XG:iq=ops[i0]:=by
         have:=mH oS cb
         rw [ey] at this
         cases this
         rfl
        subst XG
        unfold Hi at tP
        rw [oS] at tP
        simp only at tP
        obtain ⟨m0,LB,_⟩:=pg tP i0 ops[i0] (by simp)
        have Mb:∀k ok,ops[k]? =some ok→∃mk,(eF [] ops.toList)[k]? =some mk∧(es.length<posOf aw k→fF mk i0=true)∧(gw ok=true→posOf aw k<es.length→fF m0 k=true):=by
         intro k ok ay
         obtain ⟨mk,cm,z2⟩:=pg tP k ok (by simpa using ay)
         simp only [Nat.zero_add,Bool.and_eq_true] at z2
         refine ⟨mk,cm,fun aE=>?_,fun bd ao=>?_⟩
         · have:=z2.1
           rw [show Nat.blt es.length (posOf aw k)=true from by rw [Nat.blt_eq];exact aE] at this
           exact this
         · have:=z2.2
           rw [bd,show Nat.blt (posOf aw k) es.length=true from by rw [Nat.blt_eq];exact ao,LB] at this
           exact this
        have vz:dU P ops[i0]=true:=by
         obtain ⟨bL,b0⟩:=Ng (P:=P) fP
         unfold dU;rw [bL,b0];rfl
        have hC:∀i o,ops[i]? =some o→posOf aw i<es.length→∃e,es[posOf aw i]? =some e∧(ck P al ops o).run call e.r e.h=.val e.v (b2 es ba (posOf aw i+1))∧dY es fg (posOf aw i+1)=(ft o.dst).run e.r e.v:=
         fun i o aQ ao=>bU _ o ao (mH (hR i (Array.getElem?_eq_some_iff.1 aQ).1).2 aQ)
        have C:Cert P al ops (fun _=>call) es r h fg ba (ht P aw 0 ops.toList) order aw es.length ops.size false:=
         ⟨rfl,Nat.le_of_lt aW,Nat.le_of_lt aW,hR,kO,az,aM,hC,Lq,by rw [←ju];exact H9 i0 _ cb vz,H9,Pm _ _,
           fun j o aa ae aH bf=>by
            obtain ⟨e,g1,g2⟩:=r1 es ba _ rfl (Nat.le_of_lt aW) (fun i o aQ aF=>by obtain ⟨e,cm,z2,_⟩:=hC i o aQ aF;exact ⟨e,cm,z2⟩) (fun _=>⟨i0,_,cb,ju,vz⟩) av j o aa ae aH bf
            exact ⟨e,g1,fun s aO hm=>by obtain ⟨ab,g3⟩:=g2 s aO hm;exact ⟨_,ab,⟨cD,de⟩,g3⟩⟩,
           fun h=>absurd h (Nat.lt_irrefl _),fun _ _=>⟨i0,_,m0,cb,ju,fP,LB,fun k ok mk ay aE FQ=>by
            obtain ⟨mk',cm,z2,_⟩:=Mb k ok ay
            rw [FQ] at cm;cases cm
            exact z2 aE,fun k ok ay bd ao=>by
            obtain ⟨mk',cm,_,z3⟩:=Mb k ok ay
            exact z3 bd ao,v,ab,j3⟩⟩
        refine ED cO bD cD de k s C (fun h=>absurd h (by omega)) (fun an bh aj x v1 aa g1 _ _ g3 g4 g5 g6=>?_) (fun h=>absurd h (Nat.lt_irrefl _))
        obtain ⟨i1,bC,cm,z2,z3⟩:=g3
        have:i1=i0:=C.ur (Array.getElem?_eq_some_iff.1 cm).1 tF (by rw [z2,ju])
        subst this
        rw [cb] at cm;cases cm
        rw [j3] at z3;cases z3
        exact cK an bh aj x g1 g4 g5 g6
   cases ao:qq P ops.toList with
   | false=>
     rw [ao] at ag
     have none:∀(l:List Oper),qq P l=false→∀(j:Nat) (o:Oper),l[j]? =some o→eP P o.op=false:=by
      intro l
      induction l with
      | nil=>intro _ j o h;simp at h
      | cons x l bj=>
        intro h j o aQ
        simp only [qq,Bool.or_eq_false_iff] at h
        cases j with
        | zero=>simp only [List.getElem?_cons_zero,Option.some.injEq] at aQ;subst aQ;exact h.1
        | succ j=>exact bj h.2 j o (by simpa using aQ)
     refine main _ (fun es nP N hlen hle hC L3 _ j o aQ eK av xW=>?_) ag
     have E9:N=ops.size:=by
      rcases Nat.lt_or_ge N ops.size with aW | js
      · obtain ⟨i0,iq,cm,z2,z3⟩:=L3 aW
        have:=none _ ao i0 iq (by simpa using cm)
        unfold dU at z3
        rw [this] at z3;cases z3
      · omega
     obtain ⟨e,bu,bB⟩:=hC j o aQ xW
     refine ⟨e,bu,fun s aO _=>?_⟩
     have iQ:s=ops.size:=by
      rcases se aO with h | ⟨Bu,b1,aa,ae,aH⟩
      · simpa using h
      · have:=none _ ao Bu b1 aa
        unfold dU at ae
        rw [this] at ae
        cases ae
     have flat:∀d,d≤ops.size→b2 es nP d=b2 es nP 0:=by
      intro d
      induction d with
      | zero=>intro _;rfl
      | succ d bj=>
        intro aX
        obtain ⟨i,xU,nc⟩:=kO d (by omega)
        have cb:ops[i]? =some ops[i]:=Array.getElem?_eq_getElem xU
        obtain ⟨U0,bT,bP⟩:=hC i ops[i] cb (by omega)
        rw [nc] at bT bP
        have dJ:eP P ops[i].op=false:=none _ ao i _ (by simp)
        rw [(tb dJ bP).1,←bj (by omega)]
        simp [b2,bT]
     have:e.h=b2 es nP s:=by rw [iQ,flat ops.size (Nat.le_refl _),←flat (posOf aw j) (by omega)];simp [b2,bu]
     rw [←this]
     exact ⟨_,bB⟩
   | true=>
     rw [ao] at ag
     refine main _ (fun es nP N hlen hle hC L3 F5 j o aQ eK av xW=>?_) ag
     obtain ⟨e,bu,_⟩:=hC j o aQ xW
     have:=Dw F5 j o (by simpa using aQ) eK av e (by simpa using bu)
     exact ⟨e,bu,by simpa using this⟩
end
end Go.Proofs.YthemdhlheglhoaaGreatDoor.aY
namespace Go.Proofs.YthemdhlheglhoaaGreatDoor.aY
variable [Lay]
open Go Go.RowKit
def toExit:c'→Exit
 | .normal=>.normal
 | .exit id=>.exit id
 | .ret=>.ret
def QI (C:Ctx):Prop:=
 ∀f p args h v ab,C.Ht f=some p→p.run args h=.val v ab→(∃fn,C.P.funcs[f]? =some fn∧fn.body.isSome=true)∧∀(aq:Fr) E w xs,a8 E args xs→a1 aq E h w→
  Calls C.P f xs.toArray w fun e aj=>∃an x,e=.returned x∧E.le an∧Rel an v x∧a1 aq an ab aj
def Qi (C:Ctx):Prop:=
 ∀f p args h v ab,C.ext f=some p→p.run args h=.val v ab→∀(aq:Fr) E w xs,a8 E args xs→a1 aq E h w→
  ∃an x aj,(callFunc f xs.toArray).run C.P w=.ok (.value x) aj∧E.le an∧Rel an v x∧a1 aq an ab aj
def qm (C:Ctx):Prop:=QI C∧Qi C
theorem pG {P:Program} {rd:Option Nat} (m:Machine):m.fenced P (ca rd):=fenced_wide P m
def CG (rd:Option Nat) (P:Program) (c:Code) (Q:Exit→Act→World→Prop) (a:Act) (w:World):Prop:=
 match c with
 | .loop x=>∀(b:Frame) (k:List Item) (cs:List Frame),b.roundOf=rd→∃e bh aj,Q e bh aj∧ArrivesIn (Machine.fenced P (ca rd)) P (lone (b.atR a (.code x::.inLoop x::k)) cs w) b k cs e bh aj
 | c=>c.wpIn (ca rd) 0 P Q a w
theorem CG.wp {rd:Option Nat} {P:Program} {c:Code} {Q:Exit→Act→World→Prop} {a:Act} {w:World} (h:CG rd P c Q a w):c.wpIn (ca rd) 0 P Q a w:=by
 cases c with
 | loop x=>
   intro b k cs la _ _
   obtain ⟨e,bh,aj,q,r⟩:=h b k cs la
   exact ⟨e,bh,aj,q,.of_steps (.one (pG _) stepR_loop) r⟩
 | _=>exact h
def uW (aq:Fr) (E:Env) (al:Nat) (Q:Exit→Act→World→Prop):lC→Prop
 | .ok e r h=>∀an bh aj,E.le an→fh an al r bh→a1 aq an h aj→Q (toExit e) bh aj
 | .cv v r h=>∀an bh aj x,E.le an→fh an al r bh→Rel an v x→a1 aq an h aj→Q (.panic (o7 x)) bh aj
 | .fail=>False
theorem uW.up {aq:Fr} {E an:Env} (h:E.le an) {al:Nat} {Q:Exit→Act→World→Prop} {x:lC} (k:uW aq E al Q x):uW aq an al Q x:=by
 cases x with
 | ok e r ba=>exact fun b9 a w ae=>k b9 a w (h.trans ae)
 | cv v r ba=>exact fun b9 a w x ae=>k b9 a w x (h.trans ae)
 | fail=>exact k
def IG (P:Program) (al:Nat) (c:Code) (run:bt→af→lC):Prop:=
 ∀(rd:Option Nat) (aq:Fr) r h,(rd=none∨noMark c=true)→∀E a w,fh E al r a→a1 aq E h w→∀Q:Exit→Act→World→Prop,uW aq E al Q (run r h)→CG rd P c Q a w
def rA (P:Program) (ex:hH):Prop:=∀al c,IG P al c (ex al c)
def uw (tmps:Array Value):ResultVar→Sem Value
 | .tmp t=>pure (tmps.getD t undef)
 | .cell b t=>do loadVar t (←asAddr (tmps.getD b undef))
theorem HL {P:Program} {aq:Fr} {E:Env} {al:Nat} {r:bt} {h:af} {a:Act} {w:World} (k:RegRel0 E al r a) (s:a1 aq E h w):∀{l:List ResultVar} {ad:List V},(kp P al l).run r h=some ad→
 ∃xs,a8 E ad xs∧(l.mapM (uw a.tmps)).run P w=.ok xs w
 | [],ad,he=>by
   simp only [kp,Option.some.injEq] at he
   subst he
   exact ⟨[],rfl,rfl⟩
 | .tmp t::l,ad,he=>by
   simp only [kp] at he
   cases aD:(Nat.ble t top&&Nat.blt t al) with
   | false=>rw [aD] at he;cases he
   | true=>
     rw [aD] at he
     simp only [cond_true] at he
     simp only [Bool.and_eq_true,Nat.ble_eq] at aD
     cases aG:(kp P al l).run r h with
     | none=>rw [aG] at he;cases he
     | some us=>
       rw [aG] at he
       simp only [Option.some.injEq] at he
       subst he
       obtain ⟨xs,aa,ae⟩:=HL k s aG
       refine ⟨_::xs,by simp only [a8];exact ⟨_,_,rfl,k.aJ t aD.1,aa⟩,?_⟩
       rw [List.mapM_cons,Sem.run_bind]
       simp only [uw,Sem.run_pure,Result.andThen_ok,Sem.run_bind,ae]
 | .cell b t::l,ad,he=>by
   simp only [kp] at he
   cases aD:(Nat.ble b top&&Nat.blt b al) with
   | false=>rw [aD] at he;cases he
   | true=>
     rw [aD] at he
     simp only [cond_true] at he
     simp only [Bool.and_eq_true,Nat.ble_eq] at aD
     cases br:(o3 P t).run h (T.get .bad (ai b) r) with
     | none=>rw [br] at he;cases he
     | some v=>
       rw [br] at he
       simp only at he
       cases aG:(kp P al l).run r h with
       | none=>rw [aG] at he;cases he
       | some us=>
         rw [aG] at he
         simp only [Option.some.injEq] at he
         subst he
         obtain ⟨xs,aa,ae⟩:=HL k s aG
         obtain ⟨Y,_,cC,A,m_,fk⟩:=M4 (P:=P) s (k.aJ b aD.1) br
         refine ⟨Y::xs,by simp only [a8];exact ⟨_,_,rfl,cC,aa⟩,?_⟩
         rw [List.mapM_cons,Sem.run_bind]
         simp only [uw,m_,asAddr,Sem.run_bind,Sem.run_pure,Result.andThen_ok,fk,ae]
theorem Jk:∀(args:List V) (i:Nat) (t:bt) (j:Nat),i+args.length≤top+1→j≤top→
 T.get .bad (ai j) (mg i args t)=if i≤j∧j<i+args.length then (args[j-i]?).getD .bad else T.get .bad (ai j) t
 | [],i,t,j,_,_=>by
   have:¬(i≤j∧j<i):=by omega
   simp [mg,this]
 | v::ad,i,t,j,h,bK=>by
   simp only [List.length_cons] at h ⊢
   rw [mg,Jk ad _ _ _ (by omega) bK]
   by_cases aa:i+1≤j∧j<i+1+ad.length
   · rw [if_pos aa,if_pos (by omega)]
     have:j-i=(j - (i+1))+1:=by omega
     rw [this,List.getElem?_cons_succ]
   · rw [if_neg aa,T.hM]
     by_cases ae:j=i
     · subst ae;rw [if_pos rfl,if_pos (by omega)];simp
     · rw [if_neg (fun e=>ae (dR e).symm),if_neg (by omega)]
theorem ab_ {E:Env} {ad:List V} {xs:List Value} (h:a8 E ad xs) (fn:Func) (a:Act) (P:Program) (w:World)
 (aG:(fn.results.toList.mapM (uw a.tmps)).run P w=.ok xs w):∃x,(results fn a.tmps).run P w=.ok x w∧Rel E (oneOf ad) x:=by
 have mv:(fn.results.mapM (uw a.tmps)).run P w=.ok xs.toArray w:=by
  rw [Array.mapM_eq_mapM_toList,Sem.run_map,aG]
  rfl
 have Fj:results fn a.tmps=(do
  let ad ←fn.results.mapM (uw a.tmps)
  pure (if h:ad.size=1 then ad[0] else .tuple ad)):=by
  unfold results
  have:(fun x=>match x with
   | ResultVar.tmp t=>(pure (a.tmps.getD t undef):Sem Value)
   | ResultVar.cell b t=>do loadVar t (←asAddr (a.tmps.getD b undef)))=uw a.tmps:=by
   funext x
   cases x<;>rfl
  rw [←this]
  rfl
 have vR:(results fn a.tmps).run P w=.ok (if h:xs.toArray.size=1 then xs.toArray[0] else .tuple xs.toArray) w:=by
  rw [Fj,Sem.run_bind,mv]
  rfl
 refine ⟨_,vR,?_⟩
 match ad,h with
 | [],h=>
   simp only [a8] at h
   subst h
   simp only [oneOf,Rel]
   exact ⟨#[],rfl,rfl⟩
 | [v],h=>
   simp only [a8] at h
   obtain ⟨y,cA,rfl,a7,rfl⟩:=h
   simpa [oneOf] using a7
 | v::u::ad,h=>
   have ao:=h.length
   have dJ:¬xs.toArray.size=1:=by simp at ao ⊢;omega
   rw [dif_neg dJ]
   simp only [oneOf,Rel]
   exact ⟨_,rfl,by simpa using h⟩
section
variable {C:Ctx}
theorem Jj:∀(args:List V) (i:Nat) (t:bt),i+args.length≤top+1→T.get .bad eN (mg i args t)=T.get .bad eN t
 | [],_,_,_=>rfl
 | v::ad,i,t,h=>by
   simp only [List.length_cons] at h
   simp only [mg]
   rw [Jj ad (i+1) _ (by omega),T.hM,if_neg (uo (by omega))]
theorem Kv {E:Env} {al:Nat} {args:List V} {xs:List Value} (ao:a8 E args xs) (k3:args.length≤al) (gR:al≤top):
 fh E al (mg 0 args .e) {tmps:=xs.toArray++Array.replicate (al-xs.toArray.size) undef,defers:=[]}:=by
 have hlen:=ao.length
 refine ⟨⟨by simp;omega,fun t ax=>?_⟩,?_⟩
 · rw [Jk _ _ _ _ (by omega) ax]
   by_cases aW:t<args.length
   · rw [if_pos (by omega),Nat.sub_zero,List.getElem?_eq_getElem aW]
     obtain ⟨y,a7,cC⟩:=ao.get t args[t] (List.getElem?_eq_getElem aW)
     simp only [Option.getD_some]
     have:(xs.toArray++Array.replicate (al-xs.toArray.size) undef).getD t undef=y:=by
      rw [Array.getD_eq_getD_getElem?,Array.getElem?_append_left (by simp;omega)]
      simp [a7]
     rw [this];exact cC
   · rw [if_neg (by omega)]
     simp [Rel]
 · rw [Jj _ _ _ (by omega)]
   simp [kT]
def kz (E:Env) (u:Option V) (m:FrameMode):Prop:=
 match u with
 | none=>m=.returning
 | some v=>∃x,Rel E v x∧m=.panicking (o7 x)
theorem kz.mono {E an:Env} (h:E.le an) {u:Option V} {m:FrameMode} (k:kz E u m):kz an u m:=by
 cases u with
 | none=>exact k
 | some v=>obtain ⟨x,aa,ae⟩:=k;exact ⟨x,Rel.mono h _ _ aa,ae⟩
theorem kz.settle {E:Env} {u:Option V} {m:FrameMode} (k:kz E u m):settle m=m:=by
 cases u with
 | none=>simp only [kz] at k;subst k;rfl
 | some v=>obtain ⟨x,aa,rfl⟩:=k;rfl
theorem kz.run {E:Env} {u:Option V} {m:FrameMode} (k:kz E u m):m≠.run:=by
 cases u with
 | none=>simp only [kz] at k;subst k;simp
 | some v=>obtain ⟨x,aa,rfl⟩:=k;simp
def zt (P:Program) (j9:sP):Prop:=
 ∀f args u h hF ab,j9 f args u h=.go hF ab→(∃fn,P.funcs[f]? =some fn∧fn.body.isSome=true)∧
  ∀(aq:Fr) E w xs m,a8 E args xs→kz E u m→a1 aq E h w→CallsDIn (ca none) 0 P f xs.toArray m w fun e b3 aj=>∃an x,e=.returned x∧E.le an∧kz an hF (settle b3)∧a1 aq an ab aj
theorem a1.gone {aq:Fr} {E:Env} {h:af} {w aj:World} (s:a1 aq E h w) {b:aN} {p:iJ} (ho:(h.get b).own=true) (ag:E b=some p) (c9:aq.w.heap.size≤p.bc)
 (aW:w.heap.size≤aj.heap.size) (my:∀j,j≠p.bc→aj.heap[j]? =w.heap[j]?) (nU:aj.os=w.os) (ax:aj.tape=w.tape) (aQ:aj.output=w.output):a1 aq E (h.set b .dead) aj:=
 s.set ho ag c9 aW my nU ax aQ (fun _ _ _ e=>by cases e) trivial
theorem GK {P:Program} {j9:sP} (bD:eI P) (k5:zt P j9) {aq:Fr} {fn:Func} {tmps:Array Value} {R:Ending→World→Prop}:∀(ad:List V) (ds:List Deferred) (E:Env) (u:Option V) (h:af) (w:World) (m:FrameMode) (hF:Option V) (ab:af),
 mC j9 ad u h=.go hF ab→mM E ad ds→kz E u m→a1 aq E h w→(∀an b3 aj,E.le an→kz an hF b3→a1 aq an ab aj→LeavesInM (ca none) 0 P fn tmps R [] b3 aj)→LeavesInM (ca none) 0 P fn tmps R ds m w
 | [],ds,E,u,h,w,m,hF,ab,he,aX,hu,s,cC=>by
   simp only [mC,rC.go.injEq] at he
   obtain ⟨rfl,rfl⟩:=he
   simp only [mM] at aX
   subst aX
   exact cC E m w (Env.le.refl E) hu s
 | v::ad,ds,E,u,h,w,m,hF,ab,he,aX,hu,s,cC=>by
   obtain ⟨d,tc,rfl,AW,AX⟩:=aX
   cases v with
   | func f args=>
     simp only [mC] at he
     cases aD:j9 f args u h with
     | fail=>rw [aD] at he;cases he
     | go l4 aa=>
       rw [aD] at he
       simp only at he
       obtain ⟨ar,cap,ax,ao⟩:=AW
       obtain ⟨⟨Vz,jU,ah⟩,cD⟩:=k5 _ _ _ _ _ _ aD
       refine ⟨hu.run,.inr ⟨fun h=>by simp at h,_,cap,f,d.args++cap,ax,?_,fun _ _=>trivial,?_⟩⟩
       · rw [ax]
         simp only [invoke]
         exact sy bD jU ah _ w
       · have e:d.args++cap=(d.args.toList++cap.toList).toArray:=by apply Array.ext';simp
         rw [e]
         refine CallsDIn.mono (cD aq E w _ m ao hu s) fun e m1 bT av=>?_
         obtain ⟨eX,x,rfl,au,az,aM⟩:=av
         exact GK bD k5 ad tc eX l4 aa bT (settle m1) hF ab he (AX.mono au) az aM fun b9 m2 bP bu bB dP=>cC b9 m2 bP (au.trans bu) bB dP
   | ptr b off=>
     simp only [mC] at he
     cases aE:h.get b<;>rw [aE] at he<;>simp only at he<;>try (cases he;done)
     obtain ⟨p,ag,WU⟩:=AW
     have ah:=s.at ag
     rw [aE] at ah
     obtain ⟨p',fN,c9,ba⟩:=ah
     rw [ag] at fN;cases fN
     have k9:=(Array.getElem?_eq_some_iff.1 ba).1
     let bT:World:={w with heap:=w.heap.setIfInBounds p.bc (.deferred none)}
     have X6:(Instr.takeDeferred p.bc).run P w=.ok [] bT:=by
      have e1:(getObj p.bc).run P w=.ok (.deferred (some [])) w:=by simp only [getObj,Sem.run,ba]
      have qU:(setObj p.bc (.deferred none)).run P w=.ok () bT:=by simp only [setObj,Sem.run,ba];rfl
      simp only [Instr.takeDeferred,Sem.run_bind,e1,Result.andThen_ok,qU,Sem.run_pure]
     have s1:a1 aq E (h.set b .dead) bT:=s.gone (by rw [aE];rfl) ag c9 (by simp [bT]) (fun j bK=>by simp only [bT,Array.getElem?_setIfInBounds];rw [if_neg (fun e=>bK e.symm)]) rfl rfl rfl
     refine ⟨hu.run,.inl ⟨p.bc,bT,by rw [WU],X6,?_⟩⟩
     exact GK bD k5 ad tc E u _ bT m hF ab he AX hu s1 cC
   | _=>simp [mC] at he
theorem HQ {P:Program} {aq:Fr} {E:Env} {fn:Func} {r:bt} {h:af} {a:Act} {w:World} (k:RegRel0 E fn.ntmps r a) (s:a1 aq E h w) {ad:List V} (br:(kp P fn.ntmps fn.results.toList).run r h=some ad):
 ∃x,(results fn a.tmps).run P w=.ok x w∧Rel E (oneOf ad) x:=by
 obtain ⟨cA,bu,bB⟩:=HL (P:=P) k s br
 exact ab_ bu fn a P w bB
section
variable {C:Ctx}
theorem T2 (ex:hH):gN C.P (qA C ex):=by
 intro f args h v ab he
 trivial
def ql (aq:Fr) (E:Env) (R:Ending→World→Prop):aU→Prop
 | .val v ab=>∀an x aj,E.le an→Rel an v x→a1 aq an ab aj→R (.returned x) aj
 | .cv v ab=>∀an x aj,E.le an→Rel an v x→a1 aq an ab aj→R (.panicked (o7 x)) aj
 | .fail=>False
theorem ql.up {aq:Fr} {E an:Env} (h:E.le an) {R:Ending→World→Prop} {x:aU} (k:ql aq E R x):ql aq an R x:=by
 cases x with
 | val v ba=>exact fun b9 a w ae=>k b9 a w (h.trans ae)
 | cv v ba=>exact fun b9 a w ae=>k b9 a w (h.trans ae)
 | fail=>exact k
theorem ET (bD:eI C.P) {j9:sP} (k5:zt C.P j9) {aq:Fr} {fn:Func} {E:Env} {r:bt} {u:Option V} {h:af} {a:Act} {w:World} {m:FrameMode} {R:Ending→World→Prop}
 (k:fh E fn.ntmps r a) (hu:kz E u m) (s:a1 aq E h w)
 (ag:ql aq E R (finish (kp C.P fn.ntmps fn.results.toList) r (mC j9 (T.get .bad eN r).list u h))):LeavesInM (ca none) 0 C.P fn a.tmps R a.defers m w:=by
 cases ao:mC j9 (T.get .bad eN r).list u h with
 | fail=>rw [ao] at ag;exact ag.elim
 | go hF ab=>
   rw [ao] at ag
   refine GK bD k5 _ a.defers E u h w m hF ab ao k.defers.list hu s fun an b3 aj au az aM=>?_
   cases hF with
   | some v=>
     obtain ⟨x,ak,rfl⟩:=az
     exact ag an x aj au ak aM
   | none=>
     simp only [kz] at az
     subst az
     simp only [finish] at ag
     cases br:(kp C.P fn.ntmps fn.results.toList).run r ab with
     | none=>rw [br] at ag;exact ag.elim
     | some ad=>
       rw [br] at ag
       obtain ⟨x,bu,bB⟩:=HQ (P:=C.P) (k.mono au).toRegRel0 aM br
       exact ⟨x,bu,ag an x aj au bB aM⟩
theorem J' {res:uY} {u hF:Option V} {x:lC} {ab:af} (he:Ah res u x=.go hF ab):∃e r ad,x=.ok e r ab∧(e=.normal∨e=.ret)∧T.get .bad eN r=.bad∧res.run r ab=some ad∧hF=u:=by
 unfold Ah at he
 cases x with
 | fail=>cases he
 | cv _ _ _=>cases he
 | ok e r h=>
   have main:(bif (T.get .bad eN r).Gx then (match res.run r h with
    | some _=>rC.go u h
    | none=>.fail) else .fail)=.go hF ab→(e=.normal∨e=.ret)→∃c_ bq ad,lC.ok e r h=.ok c_ bq ab∧(c_=.normal∨c_=.ret)∧T.get .bad eN bq=.bad∧res.run bq ab=some ad∧hF=u:=by
    intro he hB
    cases ah:(T.get .bad eN r).Gx with
    | false=>rw [ah] at he;cases he
    | true=>
      rw [ah] at he
      simp only [cond_true] at he
      have WG:T.get .bad eN r=.bad:=by
       cases aE:T.get .bad eN r<;>rw [aE] at ah<;>first
        | rfl
        | cases ah
      cases br:res.run r h with
      | none=>rw [br] at he;cases he
      | some ad=>
        rw [br] at he
        simp only [rC.go.injEq] at he
        obtain ⟨rfl,rfl⟩:=he
        exact ⟨e,r,ad,rfl,hB,WG,br,rfl⟩
   cases e with
   | normal=>exact main he (.inl rfl)
   | ret=>exact main he (.inr rfl)
   | exit id=>cases he
theorem adr {c:Code} {s:Dg} (h:Cg c=some s):∃id bC bR args types,c=.seq (.region id #[bC,bR] false) s.rest∧bC.dst=some s.d∧bC.op=.call ⟨.builtin .recover,args,types⟩∧bC.guard=none∧bR.dst=some s.e∧bR.op=.assign s.x∧bR.guard=none:=by
 unfold Cg at h
 split at h
 case h_2=>cases h
 rename_i id ops rest
 split at h
 case h_2=>cases h
 rename_i bC bR ao
 split at h
 case h_2=>cases h
 rename_i d args types e x aa ae aH bf cB b8
 cases h
 have XJ:ops=#[bC,bR]:=by apply Array.ext';simp [ao]
 subst XJ
 exact ⟨id,bC,bR,_,_,rfl,aa,ae,aH,bf,cB,b8⟩
theorem UO (cO:C.P.follows .mixedOrders=true) (bD:eI C.P) {ex:hH} (hex:rA C.P ex):zt C.P (Ag C.P ex):=by
 intro f args u h hF ab he
 unfold Ag at he
 cases ar:C.P.funcs[f]? with
 | none=>rw [ar] at he;cases he
 | some fn=>
   rw [ar] at he
   simp only at he
   cases ah:fn.body with
   | none=>rw [ah] at he;cases he
   | some c=>
     rw [ah] at he
     simp only at he
     refine ⟨⟨fn,rfl,by rw [ah];rfl⟩,fun aq E w xs m ao hu s=>?_⟩
     cases gR:Nat.ble fn.ntmps top with
     | false=>rw [gR] at he;cases he
     | true=>
       rw [gR] at he
       simp only [cond_true] at he
       rw [Nat.ble_eq] at gR
       unfold J_ at he
       cases k3:Nat.ble args.length fn.ntmps with
       | false=>rw [k3] at he;cases he
       | true=>
         rw [k3] at he
         simp only [cond_true] at he
         rw [Nat.ble_eq] at k3
         have k:=Kv ao k3 gR
         cases aG:Cg c with
         | none=>
           rw [aG] at he
           simp only at he
           obtain ⟨e,r,ad,ak,hB,vB,br,rfl⟩:=J' he
           refine CallsDIn.mono (callsDIn_of_wp (R:=fun e aj=>∃an x,e=.returned x∧E.le an∧a1 aq an ab aj) ar ah trivial ?_) fun c_ b3 aj av=>?_
           · refine (hex fn.ntmps c none aq _ h (.inl rfl) E _ w k s _ ?_).wp
             rw [ak]
             intro an bh aj au az aM
             have aX:bh.defers=[]:=by have:=az.defers;rw [vB] at this;exact this
             obtain ⟨x,bu,bB⟩:=HQ (P:=C.P) az.toRegRel0 aM br
             rcases hB with rfl | rfl<;>exact ⟨aX,x,bu,an,x,rfl,au,aM⟩
           · obtain ⟨rfl,an,x,rfl,au,aM⟩:=av
             exact ⟨an,x,rfl,au,by rw [hu.settle];exact hu.mono au,aM⟩
         | some pb=>
           rw [aG] at he
           simp only at he
           cases g':(fe fn.ntmps (some pb.d)&&fe fn.ntmps (some pb.e)) with
           | false=>rw [g'] at he;cases he
           | true=>
             rw [g'] at he
             simp only [cond_true] at he
             simp only [Bool.and_eq_true] at g'
             obtain ⟨e,r,ad,ak,hB,vB,br,rfl⟩:=J' he
             obtain ⟨id,bC,bR,y9,rt,rfl,g1,g2,g3,g4,g5,g6⟩:=adr aG
             refine callsDIn_of_wpSIn ar ah trivial fun ta cs Fi=>wpSIn_seq (wpSIn_region ?_)
             obtain ⟨X,c4,s',h4,b3,mu,X2⟩:∃X,Rel E (u.getD .nilIface) X∧∃s',(match recoverD (ta::cs) with
              | some (v,UI)=>v=X∧UI=s'
              | none=>X=.nilIface∧s'=ta::cs)∧∃b3,s'={ta with mode:=b3}::cs∧settle b3=.returning:=by
              cases u with
              | none=>
                simp only [kz] at hu
                subst hu
                refine ⟨.nilIface,rfl,ta::cs,?_,.returning,?_,rfl⟩
                · simp only [recoverD,Fi];exact ⟨trivial,trivial⟩
                · rw [←Fi]
              | some v=>
                obtain ⟨x,ak,rfl⟩:=hu
                refine ⟨x,ak,{ta with mode:=.panicking [{v:=x,recovered:=true}]}::cs,?_,.panicking [{v:=x,recovered:=true}],rfl,rfl⟩
                simp only [recoverD,Fi];exact ⟨trivial,trivial⟩
             have bX:=k.put g'.1 c4
             have b':=bX.put g'.2 (dx bX.toRegRel0 pb.x)
             rw [←g1] at b'
             rw [←g4] at b'
             have Bc:=(hex fn.ntmps pb.rest none aq _ h (.inl rfl) E _ w b' s (fun c_ bh aj=>bodyPostS C.P fn ta cs (fun e b3 aj=>∃an x,e=.returned x∧E.le an∧kz an none (settle b3)∧a1 aq an ab aj) c_ bh s' aj) (by
              have:OH pb u (mg 0 args .e)=(ft bR.dst).run ((ft bC.dst).run (mg 0 args .e) (u.getD .nilIface)) ((bF pb.x).run ((ft bC.dst).run (mg 0 args .e) (u.getD .nilIface))):=by rw [g1,g4];rfl
              rw [←this,ak]
              intro an bh aj au az aM
              have aX:bh.defers=[]:=by have:=az.defers;rw [vB] at this;exact this
              obtain ⟨x,bu,bB⟩:=HQ (P:=C.P) az.toRegRel0 aM br
              rcases hB with rfl | rfl<;>exact ⟨aX,b3,mu,x,bu,an,x,rfl,au,X2,aM⟩)).wp
             have L':=wpSIn_of_wpIn (F:=ca none) rfl Bc
             have qW:∀y,Region.wanted bC y=true:=fun y=>by simp [Region.wanted,g3]
             have r9:∀y,Region.wanted bR y=true:=fun y=>by simp [Region.wanted,g6]
             have XZ:∀(ρ:Operand→Value),(execOp ρ bC).run C.P w=.ok .recover w:=fun ρ=>by
              obtain ⟨dst,op,type,pos,after,guard⟩:=bC
              simp only at g2
              subst g2
              rfl
             have x_:∀(ρ:Operand→Value),(execOp ρ bR).run C.P w=.ok (.value (ρ pb.x)) w:=fun ρ=>by
              obtain ⟨dst,op,type,pos,after,guard⟩:=bR
              simp only at g5
              subst g5
              rfl
             have cc:(#[bC,bR]:Array Oper).size=2:=rfl
             rw [cc]
             simp only [List.range_succ,List.range_zero,List.nil_append,List.cons_append,wpOpsSIn]
             have cR:(#[bC,bR]:Array Oper)[0]? =some bC:=rfl
             have aP:(#[bC,bR]:Array Oper)[1]? =some bR:=rfl
             rw [cR]
             simp only [qW,if_true,XZ]
             refine ⟨fun _ _=>trivial,?_⟩
             cases LW:recoverD (ta::cs) with
             | none=>
               rw [LW] at h4
               obtain ⟨Wv,oO⟩:=h4
               subst Wv oO
               simp only [aP,r9,if_true,x_]
               exact ⟨fun _ _=>trivial,L'⟩
             | some wW=>
               obtain ⟨v,afW⟩:=wW
               rw [LW] at h4
               obtain ⟨rfl,rfl⟩:=h4
               simp only [aP,r9,if_true,x_]
               exact ⟨fun _ _=>trivial,L'⟩
end
end
end Go.Proofs.YthemdhlheglhoaaGreatDoor.aY
namespace Go.Proofs.YthemdhlheglhoaaGreatDoor.aY
variable [Lay]
open Go Go.RowKit
theorem Pj:∀(xs:List V) (x:V),Cw (xs++[x])=some (xs,x)
 | [],x=>rfl
 | [y],x=>rfl
 | y::z::xs,x=>by
   have:=Pj (z::xs) x
   simp only [List.cons_append] at this ⊢
   simp only [Cw,this]
theorem RegRel0.putAt {E:Env} {al:Nat} {r:bt} {t:Array Value} {ds:List Deferred} (k:RegRel0 E al r ⟨t,ds⟩) {d:Nat} (aX:d<al) (ax:d≤top) {v:V} {x:Value} (br:Rel E v x):
 RegRel0 E al (T.put .bad v (ai d) r) ⟨t.setIfInBounds d x,ds⟩:=by
 refine ⟨by simp only [Array.size_setIfInBounds];exact k.size,fun j bK=>?_⟩
 rw [T.hM]
 have cc:=k.size
 simp only at cc
 by_cases h:d=j
 · subst h
   rw [if_pos rfl]
   simp [Array.getD_eq_getD_getElem?,cc,aX,br]
 · rw [if_neg (fun e=>h (dR e))]
   have:=k.aJ j bK
   simpa [Array.getD_eq_getD_getElem?,Array.getElem?_setIfInBounds,h] using this
theorem Oh {E:Env} {al:Nat} {ds:List Deferred}:∀(a_:List Nat) (ad:List V) (xs:List Value) (r:bt) (t:Array Value),oi al a_=true→a8 E ad xs→RegRel0 E al r ⟨t,ds⟩→
 RegRel0 E al (q_ a_ ad r) ⟨(a_.zip xs).foldl (fun t (p:Nat × Value)=>t.setIfInBounds p.1 p.2) t,ds⟩
 | [],ad,xs,r,t,_,_,k=>by cases ad<;>exact k
 | p::a_,[],xs,r,t,_,ao,k=>by simp only [a8] at ao;subst ao;exact k
 | p::a_,v::ad,xs,r,t,ag,ao,k=>by
   obtain ⟨y,cA,rfl,a7,ao⟩:=ao
   simp only [oi,List.all_cons,Bool.and_eq_true,Nat.blt_eq,Nat.ble_eq] at ag
   simp only [q_,List.zip_cons_cons,List.foldl_cons]
   exact Oh a_ ad cA _ _ ag.2 ao (k.putAt ag.1.1 ag.1.2 a7)
theorem Oi {E:Env} {al:Nat} {ds:List Deferred} {a_:Array Nat} {ad:List V} {xs:List Value} {r:bt} {t:Array Value} (ag:oi al a_.toList=true) (ao:a8 E ad xs) (k:RegRel0 E al r ⟨t,ds⟩):
 RegRel0 E al (q_ a_.toList ad r) ⟨(a_.zip xs.toArray).foldl (fun t (p:Nat × Value)=>t.setIfInBounds p.1 p.2) t,ds⟩:=by
 rw [←Array.foldl_toList,Array.toList_zip]
 exact Oh a_.toList ad xs r t ag ao k
theorem RegRel0.RH {E:Env} {al:Nat} {r:bt} {a:Act} (k:RegRel0 E al r a) (v:V):RegRel0 E al (T.put .bad v eN r) a:=
 ⟨k.size,fun t ax=>by rw [T.hM,if_neg (fun e=>uo ax e.symm)];exact k.aJ t ax⟩
section
variable {C:Ctx}
theorem VA (bD:eI C.P) (cO:C.P.follows .mixedOrders=true) {ex:hH} (hex:rA C.P ex) {f:FuncId} {args:List V} {h:af} {aq:Fr} {E:Env} {w:World} {xs:List Value} (ao:a8 E args xs) (s:a1 aq E h w) {R:Ending→World→Prop}
 (ag:ql aq E R ((EW C.P f).run ex args h)):(∃fn,C.P.funcs[f]? =some fn∧fn.body.isSome=true)∧Calls C.P f xs.toArray w R:=by
 unfold EW at ag
 cases ar:C.P.funcs[f]? with
 | none=>rw [ar] at ag;exact ag.elim
 | some fn=>
   rw [ar] at ag
   simp only at ag
   cases ah:fn.body with
   | none=>rw [ah] at ag;exact ag.elim
   | some c=>
     rw [ah] at ag
     simp only at ag
     refine ⟨⟨fn,rfl,by rw [ah];rfl⟩,?_⟩
     cases gR:Nat.ble fn.ntmps top with
     | false=>rw [gR] at ag;exact ag.elim
     | true=>
       rw [gR] at ag
       simp only [cond_true] at ag
       rw [Nat.ble_eq] at gR
       unfold KS at ag
       cases k3:Nat.ble args.length fn.ntmps with
       | false=>rw [k3] at ag;exact ag.elim
       | true=>
         rw [k3] at ag
         simp only [cond_true] at ag
         rw [Nat.ble_eq] at k3
         have k:=Kv ao k3 gR
         have k5:=UO (C:=C) cO bD hex
         refine rO.1 (callsIn_of_wp_marks (F:=ca none) (n:=0) ar ah trivial ?_)
         refine (hex fn.ntmps c none aq _ h (.inl rfl) E _ w k s _ ?_).wp
         cases aG:ex fn.ntmps c (mg 0 args .e) h with
         | fail=>rw [aG] at ag;exact ag
         | cv v r aa=>
           rw [aG] at ag
           intro an bh aj x au az aM bU
           exact ET (u:=some v) bD k5 az ⟨x,aM,rfl⟩ bU (ql.up au ag)
         | ok e r aa=>
           rw [aG] at ag
           intro an bh aj au az aM
           have main:ql aq E R (finish (kp C.P fn.ntmps fn.results.toList) r (mC (Ag C.P ex) (T.get .bad eN r).list none aa))→LeavesInM (ca none) 0 C.P fn bh.tmps R bh.defers .returning aj:=by
            intro ag
            exact ET (u:=none) bD k5 az rfl aM (ql.up au ag)
           cases e with
           | normal=>exact main ag
           | ret=>exact main ag
           | exit id=>exact ag.elim
theorem AD (bD:eI C.P) (cO:C.P.follows .mixedOrders=true) (h2:qm C) {ex:hH} (hex:rA C.P ex) {f:FuncId} {args:List V} {h:af} {aq:Fr} {E:Env} {w:World} {xs:List Value} (ao:a8 E args xs) (s:a1 aq E h w) {R:Ending→World→Prop}
 (ag:ql aq E R ((vm C f).run ex args h)):(∃fn,C.P.funcs[f]? =some fn∧fn.body.isSome=true)∧Calls C.P f xs.toArray w R:=by
 unfold vm at ag
 cases av:C.Ht f with
 | none=>rw [av] at ag;exact VA bD cO hex ao s ag
 | some p=>
   rw [av] at ag
   simp only at ag
   cases aG:p.run args h with
   | fail=>rw [aG] at ag;exact ag.elim
   | cv _ _=>rw [aG] at ag;exact ag.elim
   | val v ab=>
     rw [aG] at ag
     obtain ⟨aa,ae⟩:=h2.1 f p args h v ab av aG
     refine ⟨aa,(ae aq E w xs ao s).mono fun e aj av=>?_⟩
     obtain ⟨an,x,rfl,au,az,aM⟩:=av
     exact ag an x aj au az aM
theorem a1.loop {P:Program} {aq:Fr} {E:Env} {h:af} {w:World} (s:a1 aq E h w) {b:aN} {l cE:j7} {p:iJ} {o b1:Loop} (aE:h.get b=.cg l) (ag:E b=some p) (c9:aq.w.heap.size≤p.bc) (ba:w.heap[p.bc]? =some (.loop o)) (aG:sV E cE b1):
 (setObj p.bc (.loop b1)).run P w=.ok () {w with heap:=w.heap.setIfInBounds p.bc (.loop b1)}∧a1 aq E (h.set b (.cg cE)) {w with heap:=w.heap.setIfInBounds p.bc (.loop b1)}:=by
 have k9:=(Array.getElem?_eq_some_iff.1 ba).1
 refine ⟨by simp only [setObj,Sem.run,ba],s.set (p:=p) (by rw [aE];rfl) ag c9 (by simp) (fun j bK=>?_) rfl rfl rfl (fun _ _ _ e=>by cases e) ?_⟩
 · simp only [Array.getElem?_setIfInBounds]
   rw [if_neg (fun e=>bK e.symm)]
 · exact ⟨p,b1,ag,c9,by simp [k9],aG⟩
theorem run_getLoop {P:Program} {r:Nat} {w:World} {o:Loop} (ba:w.heap[r]? =some (.loop o)):(Instr.getLoop r).run P w=.ok o w:=by
 have:(getObj r).run P w=.ok (.loop o) w:=by simp only [getObj,Sem.run,ba]
 simp only [Instr.getLoop,Sem.run_bind,this,Result.andThen_ok,Sem.run_pure]
theorem OW {aq:Fr} {E:Env} {h ab:af} {w:World} {b:aN} {p:iJ} {e:c'} {v:V} {P:Program} {R:Ending→World→Prop} {a:Act} (s:a1 aq E h w) (ag:E b=some p) (he:ux b e h=.val v ab)
 (cC:∀x aj,Rel E v x→a1 aq E ab aj→R (.returned x) aj):roundPost P p.bc R (toExit e) a w:=by
 unfold ux at he
 have ah:=s.at ag
 cases aE:h.get b<;>rw [aE] at he ah<;>simp only at he<;>try (cases he;done)
 rename_i l
 obtain ⟨p',o,fN,c9,ba,aG⟩:=ah
 rw [ag] at fN;cases fN
 have vF:=run_getLoop (P:=P) ba
 obtain ⟨bS,b7,cT,fB,hd,ez,jD,p_⟩:=aG
 cases e with
 | normal=>
   simp only [aU.val.injEq] at he
   obtain ⟨rfl,rfl⟩:=he
   obtain ⟨aa,ae⟩:=s.loop (P:=P) (cE:=⟨0,none,l.d,l.al,l.r,l.a_,l.assign,l.body⟩) (b1:={o with state:=.ready,pending:=none}) aE ag c9 ba ⟨rfl,rfl,cT,fB,hd,ez,jD,p_⟩
   refine ⟨.bool true,_,?_,cC _ _ rfl ae⟩
   simp only [Instr.endRound,Sem.run_bind,vF,Result.andThen_ok,Option.isNone_none,if_true,aa,Sem.run_pure]
 | ret=>
   simp only [aU.val.injEq] at he
   obtain ⟨rfl,rfl⟩:=he
   obtain ⟨aa,ae⟩:=s.loop (P:=P) (cE:=⟨2,some .ret,l.d,l.al,l.r,l.a_,l.assign,l.body⟩) (b1:={o with state:=.done,pending:=some .ret}) aE ag c9 ba ⟨rfl,rfl,cT,fB,hd,ez,jD,p_⟩
   refine ⟨.bool false,_,?_,cC _ _ rfl ae⟩
   simp only [Instr.endRound,Sem.run_bind,vF,Result.andThen_ok,Option.isNone_some,Bool.false_eq_true,if_false,aa,Sem.run_pure]
 | exit id=>
   simp only [aU.val.injEq] at he
   obtain ⟨rfl,rfl⟩:=he
   obtain ⟨aa,ae⟩:=s.loop (P:=P) (cE:=⟨2,some (.exit id),l.d,l.al,l.r,l.a_,l.assign,l.body⟩) (b1:={o with state:=.done,pending:=some (.exit id)}) aE ag c9 ba ⟨rfl,rfl,cT,fB,hd,ez,jD,p_⟩
   refine ⟨.bool false,_,?_,cC _ _ rfl ae⟩
   simp only [Instr.endRound,Sem.run_bind,vF,Result.andThen_ok,Option.isNone_some,Bool.false_eq_true,if_false,aa,Sem.run_pure]
theorem adF {P:Program} {ex:hH} (hex:rA P ex) {aq:Fr} {E:Env} {h ab:af} {w:World} {args:List V} {xs:List Value} {b:aN} {p:iJ} {v:V} (he:za ex args b h=.val v ab) (ao:a8 E args xs) (s:a1 aq E h w) (ag:E b=some p):
 ∃f tmps assign body,(Instr.yield p.bc xs.toArray).run P w=.ok (.round p.bc f tmps assign body) w∧
  RoundIn (ca none) 0 P p.bc f tmps assign body w fun e aj=>∃an x,e=.returned x∧E.le an∧Rel an v x∧a1 aq an ab aj:=by
 unfold za at he
 have ah:=s.at ag
 cases aE:h.get b<;>rw [aE] at he ah<;>simp only at he<;>try (cases he;done)
 rename_i l
 obtain ⟨p',o,fN,c9,ba,aG⟩:=ah
 rw [ag] at fN;cases fN
 obtain ⟨bS,b7,cT,fB,hd,ez,jD,p_⟩:=aG
 obtain ⟨aD,he⟩:=jP he
 simp only [Bool.and_eq_true,Nat.beq_eq] at aD
 obtain ⟨bL,b0,c3,fj⟩:=aD
 have hlen:=ao.length
 have vP:o.params.size=xs.length:=by rw [←Array.length_toList,cT,hlen,bL]
 refine ⟨o.fn,(o.params.zip xs.toArray).foldl (fun tmps (t,a)=>tmps.setIfInBounds t a) o.tmps,o.assign,o.body,?_,?_⟩
 · simp only [Instr.yield,Sem.run_bind,run_getLoop ba,Result.andThen_ok]
   rw [if_neg (by simp [vP])]
   rfl
 · rw [fB,hd]
   refine roundIn_of_wpIn (F:=ca none) trivial ?_
   have p2:RegRel0 E l.al l.r ⟨o.tmps,[]⟩:=⟨ez,jD⟩
   rw [←cT] at b0 he
   have bX:=(Oi b0 ao p2).RH .bad
   have k:fh E l.al (T.put .bad .bad eN (q_ o.params.toList args l.r)) ⟨(o.params.zip xs.toArray).foldl (fun t (p:Nat × Value)=>t.setIfInBounds p.1 p.2) o.tmps,[]⟩:=⟨bX,by rw [T.hM,if_pos rfl];simp [kT]⟩
   have Yf:=hex l.al l.assign (some p.bc) aq _ h (.inr c3) E _ w k s (Exit.then (fun qv rv=>∃zn,(Instr.beginRound p.bc).run P rv=.ok () zn∧
    l.body.wpIn (ca (some p.bc)) 0 P (roundPost P p.bc fun e aj=>∃an x,e=.returned x∧E.le an∧Rel an v x∧a1 aq an ab aj) qv zn) (fun _ _ _=>False))
   refine (Yf ?_).wp
   cases ak:ex l.al l.assign (T.put .bad .bad eN (q_ o.params.toList args l.r)) h with
   | fail=>rw [ak] at he;cases he
   | cv _ _ _=>rw [ak] at he;cases he
   | ok e ade aa=>
     rw [ak] at he
     cases e<;>simp only at he<;>try (cases he;done)
     intro eX bE bT au az aM
     unfold Cm at he
     have il:=au _ _ ag
     have kH:=aM.at il
     cases Ls:aa.get b<;>rw [Ls] at he kH<;>simp only at he<;>try (cases he;done)
     rename_i fO
     obtain ⟨bu,bC,x4,oK,pN,qT⟩:=kH
     rw [il] at x4;cases x4
     obtain ⟨ct,he⟩:=jP he
     rw [Nat.beq_eq] at ct
     obtain ⟨t1,t2,t3,t4,t5,t6,t7,t8⟩:=qT
     obtain ⟨g1,g2⟩:=aM.loop (P:=P) (cE:=⟨1,fO.c6,fO.d,fO.al,fO.r,fO.a_,fO.assign,fO.body⟩) (b1:={bC with state:=.busy}) Ls il oK pN ⟨rfl,t2,t3,t4,t5,t6,t7,t8⟩
     refine ⟨{bT with heap:=bT.heap.setIfInBounds p.bc (.loop {bC with state:=.busy})},?_,?_⟩
     · have x':bC.state=.ready:=by rw [t1,ct];rfl
       simp only [Instr.beginRound,Sem.run_bind,run_getLoop pN,Result.andThen_ok,g1,x',Sem.run_pure]
     · refine (hex l.al l.body (some p.bc) aq _ _ (.inr fj) eX _ _ az g2 _ ?_).wp
       cases v8:ex l.al l.body ade (aa.set b (.cg ⟨1,fO.c6,fO.d,fO.al,fO.r,fO.a_,fO.assign,fO.body⟩)) with
       | fail=>rw [v8] at he;cases he
       | cv _ _ _=>rw [v8] at he;cases he
       | ok bl adf ae=>
         rw [v8] at he
         simp only at he
         intro b9 a2 bP cm z2 z3
         exact OW z3 (cm _ _ il) he fun x aj eR fR=>⟨b9,x,rfl,au.trans cm,eR,fR⟩
theorem T4 (cO:C.P.follows .mixedOrders=true) (bD:eI C.P) (h2:qm C) {ex:hH} (hex:rA C.P ex):gz C.P (qA C ex) where
 fn:=by
  intro aq f args h v ab ar he E w xs ao s
  unfold qA at he
  rw [hL,if_neg ar] at he
  cases ak:C.ext f with
  | some p=>
    rw [ak] at he
    simp only at he
    cases aG:p.run args h with
    | fail=>rw [aG] at he;cases he
    | cv _ _=>rw [aG] at he;cases he
    | val v1 aa=>
      rw [aG] at he
      simp only [aU.G8,aU.val.injEq] at he
      obtain ⟨rfl,rfl⟩:=he
      exact .inr (h2.2 f p args h _ _ ak aG aq E w xs ao s)
  | none=>
  rw [ak] at he
  simp only at he
  exact .inl (AD bD cO h2 hex ao s (by rw [he];exact fun an x aj au az aM=>⟨an,x,rfl,au,az,aM⟩))
 cv:=by
  intro aq f args h v ab ar he E w xs ao s
  unfold qA at he
  rw [hL,if_neg ar] at he
  cases ak:C.ext f with
  | some p=>
    rw [ak] at he
    simp only at he
    cases aG:p.run args h<;>rw [aG] at he<;>cases he
  | none=>
  rw [ak] at he
  simp only at he
  exact AD bD cO h2 hex ao s (by rw [he];exact fun an x aj au az aM=>⟨an,x,rfl,au,az,aM⟩)
 P9:=by
  intro aq args b h v ab he E w xs p ao s ag
  unfold qA at he
  rw [hL,if_pos rfl] at he
  unfold HT at he
  rw [Pj] at he
  exact adF hex he ao s ag
 P':=by
  intro args h v ab he
  unfold qA at he
  rw [hL,if_pos rfl] at he
  have aP:∀b e h,ux b e h≠.cv v ab:=by
   intro b e h he
   unfold ux at he
   split at he
   · cases e<;>cases he
   · cases he
  have bl:∀al c b r h,Cm ex al c b r h≠.cv v ab:=by
   intro al c b r h he
   unfold Cm at he
   split at he
   case h_2=>cases he
   rename_i l ao
   cases aD:Nat.beq l.st 0 with
   | false=>rw [aD] at he;cases he
   | true=>
     rw [aD] at he
     simp only [cond_true] at he
     split at he
     · exact aP _ _ _ he
     · cases he
  have bW:∀xs b h,za ex xs b h≠.cv v ab:=by
   intro xs b h he
   unfold za at he
   split at he
   case h_2=>cases he
   rename_i l ao
   cases aD:(Nat.beq xs.length l.a_.length&&(oi l.al l.a_&&(noMark l.assign&&noMark l.body))) with
   | false=>rw [aD] at he;cases he
   | true=>
     rw [aD] at he
     simp only [cond_true] at he
     split at he
     case h_2=>cases he
     rename_i e r aa _
     cases e<;>simp only at he<;>try (cases he;done)
     exact bl _ _ _ _ _ he
  unfold HT at he
  split at he
  case h_2=>cases he
  split at he
  case h_2=>cases he
  exact bW _ _ _ he
end
end Go.Proofs.YthemdhlheglhoaaGreatDoor.aY
namespace Go.Proofs.YthemdhlheglhoaaGreatDoor.aY
variable [Lay]
open Go Go.RowKit
section
variable {C:Ctx}
theorem Vh {P:Program} {e:c'} {Q:Exit→Act→World→Prop} {a:Act} {w:World} (h:Q (toExit e) a w):(ES e).wpIn (ca none) 0 P Q a w:=by
 cases e with
 | normal=>exact wpIn_skip h
 | exit id=>exact wpIn_exit h
 | ret=>exact wpIn_ret h
theorem ado (cO:C.P.follows .mixedOrders=true) (bD:eI C.P) (h2:qm C) {ex:hH} (hex:rA C.P ex) {f:Operand} {a_:Array Tmp} {assign body:Code} {al:Nat} {aq:Fr} {E:Env} {r:bt} {h:af} {a:Act} {w:World} {Q:Exit→Act→World→Prop}
 (k:fh E al r a) (s:a1 aq E h w) (ag:uW aq E al Q (HD (fun g args h=>(vm C g).run ex args h) (bF f) a_.toList al assign body r h)):(Code.rangeFunc f a_ assign body).wpIn (ca none) 0 C.P Q a w:=by
 unfold HD at ag
 have ar:=dx k.toRegRel0 f
 generalize (bF f).run r=uG at ag ar
 cases uG<;>simp only at ag<;>try (exact ag.elim)
 rename_i g cs
 rw [hL] at ag
 by_cases aE:g=da
 · rw [if_pos aE] at ag;exact ag.elim
 · rw [if_neg aE] at ag
   simp only [Rel] at ar
   rcases ar with ⟨_,eJ,c4,ao⟩ | ⟨Fz,_⟩
   case inr=>exact absurd Fz aE
   refine wpIn_rangeFunc fun fn _=>?_
   have f0:=s.fresh h.next (Nat.le_refl _)
   obtain ⟨eX,tr⟩:∃eX,eX=E.put (ai h.next) ⟨w.heap.size,0,0⟩:=⟨_,rfl⟩
   obtain ⟨bT,qW⟩:∃bT:World,bT={w with heap:=w.heap.push (.deferred (some []))}:=⟨_,rfl⟩
   have x7:eX (ai h.next)=some ⟨w.heap.size,0,0⟩:=by rw [tr];unfold Env.put;rw [if_pos rfl]
   have s1:a1 aq eX (h.new .eD) bT:=by
    rw [tr,qW]
    refine s.alloc 0 ⟨⟨w.heap.size,0,0⟩,by unfold Env.put;rw [if_pos rfl],s.frame.size,by simp⟩
   have n1:E.le eX:=by rw [tr];exact Env.lk f0
   have tU:bT.heap.size=w.heap.size+1:=by rw [qW];simp
   obtain ⟨o,aQ⟩:∃o:Loop,o={state:=.ready,pending:=none,fn,tmps:=a.tmps,params:=a_,assign,body,defers:=w.heap.size}:=⟨_,rfl⟩
   obtain ⟨b9,qH⟩:∃b9,b9=eX.put (ai (h.next+1)) ⟨bT.heap.size,0,0⟩:=⟨_,rfl⟩
   obtain ⟨bP,r9⟩:∃bP:World,bP={bT with heap:=bT.heap.push (.loop o)}:=⟨_,rfl⟩
   have f1:eX (ai (h.next+1))=none:=s1.fresh (h.next+1) (Nat.le_refl _)
   have lj:eX.le b9:=by rw [qH];exact Env.lk f1
   have x8:b9 (ai (h.next+1))=some ⟨bT.heap.size,0,0⟩:=by rw [qH];unfold Env.put;rw [if_pos rfl]
   have cg:sV b9 ⟨0,none,ai h.next,al,r,a_.toList,assign,body⟩ o:=by
    subst aQ
    exact ⟨rfl,rfl,rfl,rfl,rfl,k.size,fun t ax=>Rel.mono (n1.trans lj) _ _ (k.aJ t ax),_,lj _ _ x7,rfl⟩
   have s2:a1 aq b9 ((h.new .eD).new (.cg ⟨0,none,ai h.next,al,r,a_.toList,assign,body⟩)) bP:=by
    rw [qH,r9]
    refine s1.alloc 0 ⟨⟨bT.heap.size,0,0⟩,o,by show eX.put (ai (h.next+1)) _ (ai (h.next+1))=_;unfold Env.put;rw [if_pos rfl],by show aq.w.heap.size≤bT.heap.size;rw [tU];have:=s.frame.size;omega,by simp,?_⟩
    have:=cg
    rw [qH] at this
    exact this
   obtain ⟨hD,oR⟩:∃hD,hD=bT.heap.size:=⟨_,rfl⟩
   have a7:Rel b9 (.func da [.ptr (ai (h.next+1)) 0]) (.func (.yield hD) #[] #[]):=by
    simp only [Rel]
    exact .inr ⟨trivial,_,_,rfl,x8,by rw [oR]⟩
   have oM:a8 b9 (.func da [.ptr (ai (h.next+1)) 0]::cs) (.func (.yield hD) #[] #[]::eJ.toList):=by
    simp only [a8]
    exact ⟨_,_,rfl,a7,a8.mono (n1.trans lj) _ _ ao⟩
   have cD:=AD (C:=C) bD cO h2 hex (f:=g) oM s2 (R:=rangePost (ca none) 0 C.P hD Q {a with defers:=[{target:=.collected w.heap.size,args:=#[]}]++a.defers})
   cases aG:(vm C g).run ex (.func da [.ptr (ai (h.next+1)) 0]::cs) ((h.new .eD).new (.cg ⟨0,none,ai h.next,al,r,a_.toList,assign,body⟩)) with
   | fail=>rw [aG] at ag;exact ag.elim
   | cv _ _=>rw [aG] at ag;exact ag.elim
   | val v ab=>
     rw [aG] at ag cD
     simp only at ag
     obtain ⟨⟨Vz,jU,ah⟩,aD⟩:=cD (by
      intro an x aj au az aM
      simp only [rangePost]
      unfold OD at ag
      have jv:=au _ _ x8
      have ah:=aM.at jv
      cases vF:ab.get (ai (h.next+1))<;>rw [vF] at ag ah<;>simp only at ag<;>try (exact ag.elim)
      rename_i l
      obtain ⟨p',b1,fN,c9,ba,FK⟩:=ah
      rw [jv] at fN;cases fN
      obtain ⟨t1,t2,t3,t4,t5,t6,t7,t8⟩:=FK
      rw [hL] at ag
      by_cases ct:l.st=1
      · rw [if_pos ct] at ag;exact ag.elim
      · rw [if_neg ct] at ag
        simp only at ba
        rw [←oR] at ba
        have FR:(b1.state == LoopState.busy)=false:=by
         rw [t1]
         match ng:l.st with
         | 0=>rfl
         | 1=>exact absurd ng ct
         | n+2=>rfl
        have k9:=(Array.getElem?_eq_some_iff.1 ba).1
        let jd:World:={aj with heap:=aj.heap.setIfInBounds hD (.loop {b1 with state:=.exhausted})}
        have fU:(Instr.endLoop hD).run C.P aj=.ok b1.pending jd:=by
         have qU:(setObj hD (.loop {b1 with state:=.exhausted})).run C.P aj=.ok () jd:=by simp only [setObj,Sem.run,ba];rfl
         simp only [Instr.endLoop,Sem.run_bind,run_getLoop ba,Result.andThen_ok,FR,Bool.false_eq_true,if_false,qU,Sem.run_pure]
        have sz:a1 aq an (ab.set (ai (h.next+1)) .dead) jd:=by
         refine aM.gone (p:=⟨bT.heap.size,0,0⟩) (by rw [vF];rfl) jv c9 (by simp [jd]) (fun j bK=>?_) rfl rfl rfl
         simp only at bK
         simp only [jd,Array.getElem?_setIfInBounds]
         rw [if_neg (fun e=>bK (by rw [←e,oR]))]
        have g_:fh an al (T.put .bad (.tuple (.ptr (ai h.next) 0::(T.get .bad eN r).list)) eN r) {a with defers:=[{target:=.collected w.heap.size,args:=#[]}]++a.defers}:=by
         refine ⟨⟨k.size,fun t ax=>?_⟩,?_⟩
         · rw [T.hM,if_neg (fun e=>uo ax e.symm)]
           exact Rel.mono (n1.trans (lj.trans au)) _ _ (k.aJ t ax)
         · rw [T.hM,if_pos rfl]
           simp only [kT,mM,List.cons_append,List.nil_append]
           exact ⟨_,_,rfl,⟨_,au _ _ (lj _ _ x7),rfl⟩,(k.defers.mono (n1.trans (lj.trans au))).list⟩
        refine ⟨b1.pending,jd,fU,?_⟩
        rw [t2]
        cases iP:l.c6 with
        | none=>
          rw [iP] at ag
          exact ag an _ jd (n1.trans (lj.trans au)) g_ sz
        | some e=>
          rw [iP] at ag
          exact Vh (ag an _ jd (n1.trans (lj.trans au)) g_ sz))
     refine ⟨hD,[{target:=.collected w.heap.size,args:=#[]}],bP,{target:=.fn (.func g) eJ,args:=#[]++#[.func (.yield hD) #[] #[]]},bP,g,_,bP,?_,?_,fun _ _=>trivial,?_,fun h=>by simp at h,rO.2 aD⟩
     · subst aQ r9 qW
       have he:=run_enterLoop_outer (P:=C.P) (w:=w) fn a.tmps a_ assign body
       rw [World.alloc,World.alloc] at he
       simp only [Array.size_push] at oR ⊢
       rw [oR]
       exact he
     · simp only [resolve,c4,Deferred.ofValue,Sem.run_pure]
       simp [Act.eval]
     · simp only [invoke]
       have e:(#[]++#[Value.func (.yield hD) #[] #[]]:Array Value)++eJ=(Value.func (.yield hD) #[] #[]::eJ.toList).toArray:=by apply Array.ext';simp
       rw [e]
       exact sy bD jU ah _ bP
theorem wT {P:Program} {b:Frame} {a:Act} {k:List Item} {cs:List Frame} {w:World} {c:Code}:
 step P (lone (b.atR a (.code (.scope c)::k)) cs w)=.next (lone (b.atR a (.code c::.inScope c::k)) cs w):=
 step_lone_go (by simp [stepG,stepG.exec,Frame.atR])
theorem aek {P:Program} {b:Frame} {a:Act} {k:List Item} {cs:List Frame} {w:World} {c:Code}:
 step P (lone (b.atR a (.inScope c::k)) cs w)=.next (lone (b.atR a k) cs w):=
 step_lone_go (by simp [stepG,stepG.exec,Frame.atR])
theorem O6 {P:Program} {rd:Option Nat} {c:Code} {Q:Exit→Act→World→Prop} {a:Act} {w:World} (h:c.wpIn (ca rd) 0 P (Exit.noGoto Q) a w):(Code.scope c).wpIn (ca rd) 0 P Q a w:=by
 intro b k cs la ah aG
 obtain ⟨e,qv,rv,av,jq⟩:=h b (.inScope c::k) cs la ah aG
 have ak:∀id,exitTo id (.inScope c::k)=exitTo id k:=fun id=>by simp [exitTo]
 cases e with
 | normal=>exact ⟨.normal,qv,rv,av,.head (pG _) wT (StepsIn.trans jq (.one (pG _) aek))⟩
 | exit id=>exact ⟨.exit id,qv,rv,av,fun bp ay=>.head (pG _) wT (jq.1 bp (by rw [ak];exact ay)),fun qS ay=>let ⟨k₁,aa,ae⟩:=jq.2 qS (by rw [ak];exact ay);⟨k₁,aa,.head (pG _) wT ae⟩⟩
 | goto l=>exact av.elim
 | ret=>exact ⟨_,qv,rv,av,.of_steps (.one (pG _) wT) jq⟩
 | panic afU=>exact ⟨_,qv,rv,av,.of_steps (.one (pG _) wT) jq⟩
 | outgrown=>exact ⟨_,qv,rv,av,.of_steps (.one (pG _) wT) jq⟩
theorem Uv (cO:C.P.follows .mixedOrders=true) (bD:eI C.P) (h2:qm C) {ex:hH} (hex:rA C.P ex) (al:Nat):∀c:Code,IG C.P al c ((iK C al c).run ex):=by
 have cD:=T4 cO bD h2 hex
 have de:=T2 (C:=C) ex
 intro c
 induction c with
 | skip=>
   intro rd aq r h aG E a w k s Q ag
   exact wpIn_skip (ag E a w (Env.le.refl E) k s)
 | label l=>
   intro rd aq r h aG E a w k s Q ag
   exact wpIn_label (ag E a w (Env.le.refl E) k s)
 | exit id=>
   intro rd aq r h aG E a w k s Q ag
   exact wpIn_exit (ag E a w (Env.le.refl E) k s)
 | ret=>
   intro rd aq r h aG E a w k s Q ag
   exact wpIn_ret (ag E a w (Env.le.refl E) k s)
 | region id ops draw=>
   intro rd aq r h aG E a w k s Q ag
   have lift:∀x:nD,uW aq E al Q (match x with | .ok bq ab=>.ok .normal bq ab | .cv v bq ab=>.cv v bq ab | .fail=>.fail)→mS aq E al (Q .normal) Q x:=by
    intro x ak
    cases x<;>exact ak
   cases draw with
   | true=>
     simp only [iK,cond_true,Ch] at ag
     exact UX cO bD cD de (lift _ ag) k s
   | false=>
     simp only [iK,cond_false,Ch] at ag
     refine wpIn_region ?_
     have:=NL (rd:=rd) (Q:=Q) bD cD de ops.toList 0 (fun j=>by simp) (aG.imp (fun h=>h) fun h=>by simpa only [noMark,List.all_eq_true] using h) E r h a w (lift _ ag) k s
     rw [List.range_eq_range']
     simpa using this
 | seq x y tX tY=>
   intro rd aq r h aG E a w k s Q ag
   simp only [iK,O7] at ag
   have vS:rd=none∨noMark x=true:=aG.imp (fun h=>h) fun h=>by simp only [noMark,Bool.and_eq_true] at h;exact h.1
   have Gd:rd=none∨noMark y=true:=aG.imp (fun h=>h) fun h=>by simp only [noMark,Bool.and_eq_true] at h;exact h.2
   refine wpIn_seq (tX rd aq r h vS E a w k s _ ?_).wp
   cases ak:(iK C al x).run ex r h with
   | fail=>rw [ak] at ag;exact ag
   | cv v bS aa=>rw [ak] at ag;exact ag
   | ok aP bS aa=>
     rw [ak] at ag
     simp only at ag
     intro an bh aj au az aM
     cases aP with
     | normal=>exact (tY rd aq bS aa Gd an bh aj az aM Q (ag.up au)).wp
     | exit id=>exact ag an bh aj au az aM
     | ret=>exact ag an bh aj au az aM
 | cond c x y tX tY=>
   intro rd aq r h aG E a w k s Q ag
   simp only [iK,JY] at ag
   have vS:rd=none∨noMark x=true:=aG.imp (fun h=>h) fun h=>by simp only [noMark,Bool.and_eq_true] at h;exact h.1
   have Gd:rd=none∨noMark y=true:=aG.imp (fun h=>h) fun h=>by simp only [noMark,Bool.and_eq_true] at h;exact h.2
   have aD:=dx k.toRegRel0 c
   cases br:(bF c).run r<;>rw [br] at ag aD<;>simp only at ag<;>try (exact ag.elim)
   rename_i t
   simp only [Rel] at aD
   cases t with
   | true=>exact wpIn_cond_true aD (tX rd aq r h vS E a w k s Q ag).wp
   | false=>exact wpIn_cond_false aD (tY rd aq r h Gd E a w k s Q ag).wp
 | block id x bj=>
   intro rd aq r h aG E a w k s Q ag
   simp only [iK,Jy] at ag
   refine wpIn_block (bj rd aq r h (aG.imp (fun h=>h) fun h=>h) E a w k s _ ?_).wp
   cases ak:(iK C al x).run ex r h with
   | fail=>rw [ak] at ag;exact ag
   | cv v bS aa=>rw [ak] at ag;exact ag
   | ok aP bS aa=>
     rw [ak] at ag
     simp only at ag
     intro an bh aj au az aM
     cases aP with
     | normal=>exact ag an bh aj au az aM
     | ret=>exact ag an bh aj au az aM
     | exit i=>
       simp only [hL] at ag
       simp only [toExit,Exit.inBlock]
       by_cases aF:i=id
       · rw [if_pos aF] at ag ⊢;exact ag an bh aj au az aM
       · rw [if_neg aF] at ag ⊢;exact ag an bh aj au az aM
 | loop x bj=>
   intro rd aq r h aG E a w k s Q ag
   simp only [iK,M6] at ag
   have vS:rd=none∨noMark x=true:=aG.imp (fun h=>h) fun h=>h
   intro b cV cs la
   cases ak:(iK C al x).run ex r h with
   | fail=>rw [ak] at ag;exact ag.elim
   | cv v bS aa=>
     rw [ak] at ag
     have body:=(bj rd aq r h vS E a w k s (fun c_ bh aj=>∃y,c_=.panic y∧Q c_ bh aj) (by rw [ak];exact fun an bh aj x au az aM bU=>⟨_,rfl,ag an bh aj x au az aM bU⟩)).wp b (.inLoop x::cV) cs la trivial (HS _)
     obtain ⟨bl,a2,bP,⟨y,rfl,q⟩,jq⟩:=body
     exact ⟨_,a2,bP,q,.pass (x:=.inLoop x) rfl (fun _ _=>.inl (by simp)) jq⟩
   | ok aP bS aa=>
     rw [ak] at ag
     simp only at ag
     have body:=(bj rd aq r h vS E a w k s
      (fun c_ bh aj=>c_=toExit aP∧∃an,E.le an∧fh an al bS bh∧a1 aq an aa aj) (by rw [ak];exact fun an bh aj au az aM=>⟨rfl,an,au,az,aM⟩)).wp b (.inLoop x::cV) cs la trivial (HS _)
     obtain ⟨bl,a2,bP,⟨rfl,b9,au,az,aM⟩,jq⟩:=body
     cases aP with
     | normal=>
       have next:=hex al (.loop x) rd aq bS aa aG b9 a2 bP az aM Q (ag.up au)
       obtain ⟨bW,a3,iD,bu,bB⟩:=next b cV cs la
       exact ⟨bW,a3,iD,bu,.of_steps (StepsIn.trans jq (.one (pG _) stepR_inLoop)) bB⟩
     | exit id=>exact ⟨.exit id,a2,bP,ag b9 a2 bP au az aM,.pass (x:=.inLoop x) rfl (fun _ _=>.inl (by simp)) jq⟩
     | ret=>exact ⟨.ret,a2,bP,ag b9 a2 bP au az aM,.pass (x:=.inLoop x) rfl (fun _ _=>.inl (by simp)) jq⟩
 | scope x bj=>
   intro rd aq r h aG E a w k s Q ag
   simp only [iK] at ag
   refine O6 (bj rd aq r h (aG.imp (fun h=>h) fun h=>h) E a w k s _ ?_).wp
   cases ak:(iK C al x).run ex r h with
   | fail=>rw [ak] at ag;exact ag
   | cv v bS aa=>rw [ak] at ag;exact ag
   | ok aP bS aa=>
     rw [ak] at ag
     intro an bh aj au az aM
     have:=ag an bh aj au az aM
     cases aP<;>exact this
 | rangeFunc f a_ x y _ _=>
   intro rd aq r h aG E a w k s Q ag
   rcases aG with rfl | aG
   case inr=>cases aG
   simp only [iK] at ag
   exact ado cO bD h2 hex k s ag
 | goto l=>intro rd aq r h aG E a w k s Q ag;exact ag.elim
 | refuse ae9=>intro rd aq r h aG E a w k s Q ag;exact ag.elim
end
end Go.Proofs.YthemdhlheglhoaaGreatDoor.aY
namespace Go.Proofs.YthemdhlheglhoaaGreatDoor.aY
variable [Lay]
open Go Go.RowKit
section
variable {C:Ctx}
theorem KD (cO:C.P.follows .mixedOrders=true) (bD:eI C.P) (h2:qm C):∀n,rA C.P (exec C n)
 | 0=>fun al c rd aq r h aG E a w k s Q ag=>ag.elim
 | n+1=>fun al c=>Uv cO bD h2 (KD cO bD h2 n) al c
theorem T3 (cO:C.P.follows .mixedOrders=true) (bD:eI C.P) (h2:qm C) {n:Nat} {f:FuncId} {args:List V} {h ab:af} {v:V} (ar:Nat.beq f da=false) (ak:C.ext f=none) (he:Aa C n f args h=.val v ab)
 {aq:Fr} {E:Env} {w:World} {xs:List Value} (ao:a8 E args xs) (s:a1 aq E h w):
 (∃fn,C.P.funcs[f]? =some fn∧fn.body.isSome=true)∧Calls C.P f xs.toArray w fun e aj=>∃an x,e=.returned x∧E.le an∧Rel an v x∧a1 aq an ab aj:=by
 unfold Aa qA at he
 rw [ar,cond_false,ak] at he
 simp only at he
 exact AD bD cO h2 (KD cO bD h2 n) ao s (by rw [he];exact fun an x aj au az aM=>⟨an,x,rfl,au,az,aM⟩)
theorem Pb (w:World) (hw:Lay.ok w):a1 ⟨w,fun _=>none⟩ (fun _=>none) af.empty w:=by
 refine ⟨fun b _=>?_,fun _ _ h=>(by cases h),(fun b bH p p' _ _ h=>by cases h),fun _ _=>rfl,Below.refl _ _,hw,(fun _ _ _ _ _ _ h=>by cases h)⟩
 have:af.empty.get b=.dead:=by simp [af.get,af.empty]
 rw [this]
 trivial
theorem aeO (cO:C.P.follows .mixedOrders=true) (bD:eI C.P) {w:World} (hw:Lay.ok w) (h2:qm C) {n:Nat} {f:FuncId} (ar:Nat.beq f da=false) (ak:C.ext f=none) (h:Il C n f []=true):
 Calls C.P f #[] w fun e aj=>e=.returned (.bool true)∧Below w.heap.size w aj:=by
 unfold Il at h
 cases aD:Aa C n f [] af.empty with
 | fail=>rw [aD] at h;cases h
 | cv _ _=>rw [aD] at h;cases h
 | val v ba=>
   rw [aD] at h
   simp only at h
   cases v<;>simp only at h<;>try (cases h;done)
   subst h
   obtain ⟨_,k4⟩:=T3 cO bD h2 ar ak aD (aq:=⟨w,fun _=>none⟩) (E:=fun _=>none) (w:=w) (xs:=[]) rfl (Pb w hw)
   refine k4.mono fun e aj av=>?_
   obtain ⟨an,x,rfl,_,az,aM⟩:=av
   simp only [Rel] at az
   subst az
   exact ⟨rfl,aM.frame⟩
end
end Go.Proofs.YthemdhlheglhoaaGreatDoor.aY
