/- The abstract machine and its walks (a verified interpreter of the model's code: plain definitions and lemmas, no condition). Printed by a program from longer texts: names made short. -/
import Derived.Test.YtkehcalakofigaaGreatDoorM2
import Derived.Scope
import Derived.RangeFuncRecord
import Derived.Carry
import Derived.OpenShut
import Derived.ChangeSame
import Derived.Lib.Bytealg
import Derived.Lib.IndexMore
import Derived.Handed
import Derived.HandedShaped
import Derived.Shelf.SlIter.Sorted
import Derived.Shelf.SlIter.Nil
import Derived.StringKeys
import Derived.WideShapes
set_option linter.unusedSectionVars false
set_option linter.unusedSimpArgs false
set_option linter.unusedVariables false
namespace Go.Proofs.YtkehcalakofigaaGreatDoor.aS
variable [Lay]
open Go Go.RowKit
theorem z1 {α:Type} (p q:α→Bool):∀(l:List α),(∀x ∈ l,q x=true→p x=true)→(∃x ∈ l,p x=true∧q x=false)→l.countP q<l.countP p
 | [],_,h=>by obtain ⟨x,ak,_⟩:=h;simp at ak
 | a::l,aa,ae=>by
   have hle:l.countP q≤l.countP p:=List.countP_mono_left fun x ak=>aa x (by simp [ak])
   obtain ⟨x,ak,ah,aC⟩:=ae
   simp only [List.mem_cons] at ak
   rcases ak with rfl | ak
   · rw [List.countP_cons,List.countP_cons,ah,aC]
     simp
     omega
   · have bf:=z1 p q l (fun y a6=>aa y (by simp [a6])) ⟨x,ak,ah,aC⟩
     have bn:=aa a (by simp)
     rw [List.countP_cons,List.countP_cons]
     cases Zs:q a with
     | true=>rw [bn Zs];simp;omega
     | false=>simp;omega
theorem tX (e:Edge):Region.binds .any e=r1 e:=by
 unfold Region.binds r1
 cases e.ground<;>rfl
section
variable {P:Program}
theorem rf {order:List Nat}:∀{bc:List Nat} {k j p:Nat},yt order k bc=true→bc[j]? =some p→order[p]? =some (k+j)
 | [],_,j,p,_,h=>by simp at h
 | q::bc,k,j,p,ah,h=>by
   simp only [yt,Bool.and_eq_true] at ah
   cases j with
   | zero=>
     simp only [List.getElem?_cons_zero,Option.some.injEq] at h
     subst h
     have aa:=ah.1
     cases aC:order[q]? with
     | none=>rw [aC] at aa;cases aa
     | some i=>rw [aC] at aa;rw [Nat.beq_eq] at aa;rw [aa];rfl
   | succ j=>
     have:=rf ah.2 (show bc[j]? =some p by simpa using h)
     rw [this]
     congr 1
     omega
theorem lj {ops:Array Oper}:∀{order:List Nat} {p i:Nat} {o:Oper},order[p]? =some i→ops[i]? =some o→(fU ops order)[p]? =some o
 | [],p,i,o,h,_=>by simp at h
 | x::xs,p,i,o,h,aR=>by
   cases p with
   | zero=>
     simp only [List.getElem?_cons_zero,Option.some.injEq] at h
     subst h
     simp [fU,aR]
   | succ p=>simpa [fU] using lj (show xs[p]? =some i by simpa using h) aR
theorem nz {ops:Array Oper}:∀{order:List Nat},(fU ops order).length=order.length
 | []=>rfl
 | x::xs=>by simp [fU,nz (order:=xs)]
structure Cert (P:Program) (an:Nat) (ops:Array Oper) (calls:Nat→dc) (es:List d_) (bO:br) (ba:af) (cC:br) (ax:af) (dN:List Nat) (order aB:List Nat) (N M:Nat) (lit:Bool):Prop where
 len:es.length=N
 yd:N≤ops.size
 N':N≤M
 gI:∀k,k<ops.size→posOf aB k<ops.size∧order[posOf aB k]? =some k
 jt:∀p,p<ops.size→∃i,i<ops.size∧posOf aB i=p
 ba:b0 es ax 0=ba
 bO:dG es cC 0=bO
 step:∀i o,ops[i]? =some o→posOf aB i<N→∃e,es[posOf aB i]? =some e∧(cg P an ops o).run (calls i) e.r e.h=.val e.v (b0 es ax (posOf aB i+1))∧dG es cC (posOf aB i+1)=(eJ o.dst).run e.r e.v
 kU:∀i o,ops[i]? =some o→∃ct,(dW [] ops.toList)[i]? =some ct∧kB i o=true∧(posOf aB i<M→
  ∀k ok,ops[k]? =some ok→posOf aB k<M→∃mk,(dW [] ops.toList)[k]? =some mk∧mz i ct (bS ops o) o.dst k mk ok (Nat.blt (posOf aB k) (posOf aB i))=true∧(eb P o.op=true→dB P ok=true→posOf aB k<posOf aB i→eT ct k=true∨(lit=true∧jk o=true∧jk ok=true)))
 ends:N ∈ dN
 mem:∀j o,ops[j]? =some o→dB P o=true→posOf aB j ∈ dN
 Qh:∀s ∈ dN,(s=ops.size∨(s=N∧M=N))∨∃k o,ops[k]? =some o∧dB P o=true∧s=posOf aB k
 ask:∀j o,ops[j]? =some o→looks o.op=true→eb P o.op=false→posOf aB j<N→∃e,es[posOf aB j]? =some e∧∀s ∈ dN,
  pY P (dW [] ops.toList) ops.toList aB j (((dW [] ops.toList)[j]?).getD 0) s=true→∃c ab,(fv P c∧fF P c)∧(cg P an ops o).run c e.r (b0 es ax s)=.val e.v ab
 tail:M<ops.size→M=N∧∀k ok mk,ops[k]? =some ok→N≤posOf aB k→(dW [] ops.toList)[k]? =some mk→∀j,j<ops.size→posOf aB j<N→eT mk j=true
 stop:N<ops.size→ops.size≤M→∃i0 gi m0,ops[i0]? =some gi∧posOf aB i0=N∧jX gi.op=true∧(dW [] ops.toList)[i0]? =some m0∧
  (∀k ok mk,ops[k]? =some ok→N<posOf aB k→(dW [] ops.toList)[k]? =some mk→eT mk i0=true)∧
  (∀k ok,ops[k]? =some ok→fr ok=true→posOf aB k<N→eT m0 k=true)∧∃v ab,(cg P an ops gi).run (calls i0) cC ax=.ck v ab
theorem NZ {o:Oper} (h:jX o.op=true):eb P o.op=true∧fr o=false:=by
 obtain ⟨dst,op,type,pos,after,guard⟩:=o
 cases op<;>simp only [jX] at h<;>try (cases h;done)
 · rename_i c
   obtain ⟨callee,args,types⟩:=c
   cases callee<;>simp only at h<;>try (cases h;done)
   exact ⟨rfl,rfl⟩
 · exact ⟨rfl,rfl⟩
variable {an:Nat} {ops:Array Oper} {call:dc} {calls:Nat→dc} {es:List d_} {bO:br} {ba:af} {cC:br} {ax:af} {dN:List Nat} {order aB:List Nat} {N M:Nat} {lit:Bool}
theorem Cert.tb (C:Cert P an ops calls es bO ba cC ax dN order aB N M lit) {k bl:Nat} (aa:k<ops.size) (ae:bl<ops.size) (he:posOf aB k=posOf aB bl):k=bl:=by
 have a:=(C.gI k aa).2
 have b:=(C.gI bl ae).2
 rw [he,b] at a
 cases a
 rfl
theorem KR {ops:Array Oper} {aB:List Nat} (ax:uc P ops aB=true):∀i o,ops[i]? =some o→∃ct,(dW [] ops.toList)[i]? =some ct∧kB i o=true∧
 ∀k ok,ops[k]? =some ok→∃mk,(dW [] ops.toList)[k]? =some mk∧mz i ct (bS ops o) o.dst k mk ok (Nat.blt (posOf aB k) (posOf aB i))=true∧(eb P o.op=true→dB P ok=true→posOf aB k<posOf aB i→eT ct k=true):=by
 intro i o az
 unfold uc at ax
 obtain ⟨ct,aa,ae⟩:=nJ ax i o (by simpa using az)
 simp only [Nat.zero_add,Bool.and_eq_true] at ae
 refine ⟨ct,aa,ae.1,fun k ok aA=>?_⟩
 obtain ⟨mk,cb,cB⟩:=nJ ae.2 k ok (by simpa using aA)
 simp only [Nat.zero_add,Bool.and_eq_true] at cB
 refine ⟨mk,cb,cB.1,fun aN aY aP=>?_⟩
 have fM:=cB.2
 rw [aN,aY,Bool.true_and,show Nat.blt (posOf aB k) (posOf aB i)=true from by rw [Nat.blt_eq];exact aP] at fM
 exact fM
theorem Cert.HU (C:Cert P an ops calls es bO ba cC ax dN order aB N M lit):∀p,p≤N→∀t,t≤top→
 (∃k o e,posOf aB k<p∧ops[k]? =some o∧o.dst=some t∧es[posOf aB k]? =some e∧T.get .bad (ay t) (dG es cC p)=e.v)∨
 ((∀k o,posOf aB k<p→ops[k]? =some o→o.dst≠some t)∧T.get .bad (ay t) (dG es cC p)=T.get .bad (ay t) bO)
 | 0,_,t,aD=>.inr ⟨fun k o h=>by omega,by rw [C.bO]⟩
 | p+1,az,t,aD=>by
   obtain ⟨i,aP,h4⟩:=C.jt p (by have:=C.yd;omega)
   have cc:ops[i]? =some ops[i]:=Array.getElem?_eq_getElem aP
   obtain ⟨e,aa,ae,aF⟩:=C.step i ops[i] cc (by omega)
   rw [h4] at aa ae aF
   have Gh:dG es cC p=e.r:=by simp [dG,aa]
   have dj:=LH (r:=e.r) (v:=e.v) (iE ae).1 aD
   rw [aF,dj]
   by_cases aX:ops[i].dst=some t
   · rw [if_pos aX]
     exact .inl ⟨i,_,e,by omega,cc,aX,by rw [h4];exact aa,rfl⟩
   · rw [if_neg aX,←Gh]
     rcases Cert.HU C p (by omega) t aD with ⟨k,o,cU,aq,av,aK,bD,dr⟩ | ⟨aq,av⟩
     · exact .inl ⟨k,o,cU,by omega,av,aK,bD,dr⟩
     · refine .inr ⟨fun k o aA aR=>?_,av⟩
       by_cases fp:k=i
       · subst fp;rw [cc] at aR;cases aR;exact aX
       · refine aq k o ?_ aR
         have nd:=(Array.getElem?_eq_some_iff.1 aR).1
         have:posOf aB k≠p:=fun e=>fp (C.tb nd aP (by rw [e,h4]))
         omega
theorem Cert.EE (C:Cert P an ops calls es bO ba cC ax dN order aB N M lit):∀p,p≤N→T.get .bad ea (dG es cC p)=T.get .bad ea bO
 | 0,_=>by rw [C.bO]
 | p+1,az=>by
   obtain ⟨i,aP,h4⟩:=C.jt p (by have:=C.yd;omega)
   have cc:ops[i]? =some ops[i]:=Array.getElem?_eq_getElem aP
   obtain ⟨e,aa,ae,aF⟩:=C.step i ops[i] cc (by omega)
   rw [h4] at aa ae aF
   have Gh:dG es cC p=e.r:=by simp [dG,aa]
   have aX:=(iE ae).1
   rw [aF,←Cert.EE C p (by omega),Gh]
   cases YD:ops[i].dst with
   | none=>rfl
   | some d=>
     rw [YD] at aX
     simp only [ew,Bool.and_eq_true,Nat.ble_eq] at aX
     simp only [eJ]
     rw [T.gF,if_neg (s' aX.2)]
def nameAt (es:List d_) (ax:af) (aB:List Nat) (k:Nat):aO:=ay (b0 es ax (posOf aB k)).next
noncomputable def wF (es:List d_) (ax:af) (aB:List Nat) (k:Nat):bW:=(b0 es ax (posOf aB k+1)).get (nameAt es ax aB k)
def Made (es:List d_) (ax:af) (aB:List Nat) (k:Nat):Prop:=(b0 es ax (posOf aB k+1)).next≠(b0 es ax (posOf aB k)).next
def ic (ops:Array Oper) (es:List d_) (ax:af) (aB:List Nat) (listed:Array Bool) (s k:Nat):Prop:=
 ∃o,ops[k]? =some o∧(fr o=true∧Made es ax aB k)∧¬listed.getD k false=true∧posOf aB k<s
structure Holds (au F:Fr) (es:List d_) (ax:af) (aB:List Nat) (D:Nat→Prop):Prop where
 w:F.w=au.w
 bR:∀b,(∀k,D k→nameAt es ax aB k≠b)→F.dK b=au.dK b
 new:∀k,D k→F.dK (nameAt es ax aB k)=some (wF es ax aB k)∧au.dK (nameAt es ax aB k)=none
 inj:∀k bl,D k→D bl→nameAt es ax aB k=nameAt es ax aB bl→k=bl
theorem Holds.congr {au F:Fr} {D IU:Nat→Prop} (H:Holds au F es ax aB D) (h:∀k,IU k↔D k):Holds au F es ax aB IU:=
 ⟨H.w,fun b ag=>H.bR b fun k aA=>ag k ((h k).2 aA),fun k aA=>H.new k ((h k).1 aA),fun k bl aA fz=>H.inj k bl ((h k).1 aA) ((h bl).1 fz)⟩
theorem Holds.none {au F:Fr} {D:Nat→Prop} (H:Holds au F es ax aB D) (h:∀k,¬D k):F=au:=by
 have:F.dK=au.dK:=funext fun b=>H.bR b fun k aA=>absurd aA (h k)
 cases F;cases au
 have hw:=H.w
 simp only at this hw
 rw [this,hw]
theorem Cert.advance (C:Cert P an ops calls es bO ba cC ax dN order aB N M lit) {au:Fr} {listed:Array Bool} {E:Env} {w:World}:∀(d q:Nat),q+d=N→(∀k o,ops[k]? =some o→fr o=true→q≤posOf aB k→¬listed.getD k false=true)→
 ∀F,Holds au F es ax aB (ic ops es ax aB listed q)→a1 F E (b0 es ax q) w→
 ∃s dx,s ∈ dN∧q≤s∧s≤N∧(∀k o,ops[k]? =some o→dB P o=true→q≤posOf aB k→s≤posOf aB k)∧Holds au dx es ax aB (ic ops es ax aB listed s)∧a1 dx E (b0 es ax s) w
 | 0,q,aC,_,F,H,S=>by
   have:q=N:=by omega
   subst this
   exact ⟨q,F,C.ends,Nat.le_refl _,Nat.le_refl _,fun k o _ _ h=>h,H,S⟩
 | d+1,q,aC,ni,F,H,S=>by
   obtain ⟨i,aP,h4⟩:=C.jt q (by have:=C.yd;omega)
   have cc:ops[i]? =some ops[i]:=Array.getElem?_eq_getElem aP
   cases kl:dB P ops[i] with
   | true=>exact ⟨q,F,by rw [←h4];exact C.mem i _ cc kl,Nat.le_refl _,by omega,fun k o _ _ h=>h,H,S⟩
   | false=>
     obtain ⟨e,aa,ae,aF⟩:=C.step i ops[i] cc (by omega)
     rw [h4] at aa ae
     have qO:b0 es ax q=e.h:=by simp [b0,aa]
     have only:∀k o,ops[k]? =some o→posOf aB k=q→k=i:=fun k o aA ah=>C.tb (Array.getElem?_eq_some_iff.1 aA).1 aP (by rw [ah,h4])
     have fin:∀dx,Holds au dx es ax aB (ic ops es ax aB listed (q+1))→a1 dx E (b0 es ax (q+1)) w→
      ∃s dx,s ∈ dN∧q≤s∧s≤N∧(∀k o,ops[k]? =some o→dB P o=true→q≤posOf aB k→s≤posOf aB k)∧Holds au dx es ax aB (ic ops es ax aB listed s)∧a1 dx E (b0 es ax s) w:=by
      intro dx jz zs
      obtain ⟨s,CM,g1,g2,g3,g4,g5,g6⟩:=Cert.advance C d (q+1) (by omega) (fun k o aa ae aF=>ni k o aa ae (by omega)) dx jz zs
      refine ⟨s,CM,g1,by omega,g3,fun k o aA ao ah=>g4 k o aA ao ?_,g5,g6⟩
      by_cases AX:posOf aB k=q
      · have:=only k o aA AX
        subst this
        rw [cc] at aA;cases aA
        rw [kl] at ao;cases ao
      · omega
     have pass:b0 es ax (q+1)=e.h→(fr ops[i]=true→¬Made es ax aB i)→∃s dx,s ∈ dN∧q≤s∧s≤N∧(∀k o,ops[k]? =some o→dB P o=true→q≤posOf aB k→s≤posOf aB k)∧Holds au dx es ax aB (ic ops es ax aB listed s)∧a1 dx E (b0 es ax s) w:=by
      intro pM k3
      rw [←qO] at pM
      refine fin F (H.congr fun k=>⟨?_,?_⟩) (by rw [pM];exact S)
      · rintro ⟨o,aq,av,aK,bD⟩
        refine ⟨o,aq,av,aK,?_⟩
        have:posOf aB k≠q:=fun e=>by
         have:=only k o aq e
         subst this
         rw [cc] at aq;cases aq
         exact k3 av.1 av.2
        omega
      · rintro ⟨o,aq,av,aK,bD⟩
        exact ⟨o,aq,av,aK,by omega⟩
     cases bn:fr ops[i] with
     | true=>
      rcases KO bn ae with ⟨cJ,cb,cB⟩ | ⟨cb,_⟩
      ·
       have aQ:=S.hold cJ
       have aZ:nameAt es ax aB i=ay (b0 es ax q).next:=by unfold nameAt;rw [h4]
       have ag:wF es ax aB i=cJ:=by
        unfold wF
        rw [aZ,h4,cb,qO,af.gE,if_pos rfl]
       rw [qO,←cb] at aQ
       have Za:Made es ax aB i:=by
        unfold Made
        rw [h4,cb,qO]
        exact Nat.succ_ne_self _
       have oj:¬listed.getD i false=true:=ni i _ cc bn (by omega)
       have Et:∀k,ic ops es ax aB listed (q+1) k→k=i∨ic ops es ax aB listed q k:=by
        rintro k ⟨o,aq,av,aK,bD⟩
        by_cases AX:posOf aB k=q
        · exact .inl (only k o aq AX)
        · exact .inr ⟨o,aq,av,aK,by omega⟩
       have fresh:∀b va,F.dK b=some va→b≠nameAt es ax aB i:=by
        intro b va m_ heq
        obtain ⟨_,_,j,xX,sU⟩:=S.mA b va m_
        rw [heq,aZ] at sU
        rw [qO] at xX sU
        have:=fB sU
        omega
       have M0:∀b,b≠nameAt es ax aB i→(F.hold (ay e.h.next) cJ).dK b=F.dK b:=by
        intro b L4
        rw [aZ,qO] at L4
        simp only [Fr.hold,if_neg L4]
       have SB:(F.hold (ay e.h.next) cJ).dK (nameAt es ax aB i)=some cJ:=by
        rw [aZ,qO]
        simp only [Fr.hold,if_true]
       have ne:∀k,ic ops es ax aB listed q k→nameAt es ax aB k≠nameAt es ax aB i:=fun k aA=>fresh _ _ (H.new k aA).1
       refine fin (F.hold (ay e.h.next) cJ) ⟨H.w,fun b m_=>?_,fun k aA=>?_,fun k bl aA fz he=>?_⟩ aQ
       · have lD:b≠nameAt es ax aB i:=fun e=>m_ i ⟨_,cc,⟨bn,Za⟩,oj,by omega⟩ e.symm
         rw [M0 b lD]
         exact H.bR b fun k aA=>m_ k (by obtain ⟨o,aq,av,aK,bD⟩:=aA;exact ⟨o,aq,av,aK,by omega⟩)
       · rcases Et k aA with rfl | aA
         · refine ⟨by rw [SB,ag],?_⟩
           cases ah:au.dK (nameAt es ax aB k) with
           | none=>rfl
           | some va=>
             exfalso
             have:=H.bR (nameAt es ax aB k) fun bl fz=>ne bl fz
             rw [ah] at this
             exact fresh _ _ this rfl
         · rw [M0 _ (ne k aA)]
           exact H.new k aA
       · rcases Et k aA with rfl | aA<;>rcases Et bl fz with rfl | fz
         · rfl
         · exact absurd he.symm (ne bl fz)
         · exact absurd he (ne k aA)
         · exact H.inj k bl aA fz he
      · refine pass cb fun _ hm=>hm ?_
        rw [h4,cb,qO]
     | false=>
       have cZ:eb P ops[i].op=false:=by
        unfold dB at kl
        rw [bn] at kl
        simpa using kl
       exact pass (r5 cZ ae).1 fun h=>by rw [bn] at h;cases h
structure nL (P:Program) (au:Fr) (an:Nat) (ops:Array Oper) (es:List d_) (bO:br) (ax:af) (dN aB:List Nat) (gA:Env) (N:Nat) (D:List Deferred) (listed:Array Bool) (a:Act) (w:World):Prop where
 pW:listed.size=ops.size
 size:a.tmps.size=an
 defers:a.defers=D
 mQ:∀k,listed.getD k false=true→posOf aB k<N
 down:nN ops fun k=>listed.getD k false=true
 main:∃E s F,gA.le E∧s ∈ dN∧s≤N∧(∀k o,ops[k]? =some o→dB P o=true→(listed.getD k false=true↔posOf aB k<s))∧
  (∀k o,ops[k]? =some o→fr o=true→listed.getD k false=true→posOf aB k<s)∧Holds au F es ax aB (ic ops es ax aB listed s)∧a1 F E (b0 es ax s) w∧
  ∀t,t≤top→(∃k o e,listed.getD k false=true∧ops[k]? =some o∧o.dst=some t∧es[posOf aB k]? =some e∧Rel E e.v (a.tmps.getD t undef))∨
   ((∀k o,listed.getD k false=true→ops[k]? =some o→o.dst≠some t)∧Rel E (T.get .bad (ay t) bO) (a.tmps.getD t undef))
theorem qG {l:Array Bool} {i:Nat}:l.getD i false=true↔l[i]? =some true:=by
 rw [Array.getD_eq_getD_getElem?]
 cases l[i]? with
 | none=>simp
 | some b=>cases b<;>simp
theorem eN {l:Array Bool} {i k:Nat} (az:i<l.size):(l.setIfInBounds i true).getD k false=true↔(k=i∨l.getD k false=true):=by
 rw [qG,qG,Array.getElem?_setIfInBounds]
 by_cases h:i=k
 · subst h;simp [az]
 · have:¬k=i:=fun e=>h e.symm
   simp [h,this]
theorem Ai {r:br} {t:Nat} (aD:t≤top):∀{l:List Oper},T.get .bad (ay t) (ma r l)=.bad∨(T.get .bad (ay t) (ma r l)=T.get .bad (ay t) r∧∀o ∈ l,o.dst≠some t)
 | []=>.inr ⟨rfl,fun o aR=>by simp at aR⟩
 | o::os=>by
   simp only [ma]
   cases aX:o.dst with
   | none=>
     simp only
     rcases Ai (r:=r) aD (l:=os) with h | ⟨aa,ae⟩
     · exact .inl h
     · exact .inr ⟨aa,fun bX fJ=>by
        rcases List.mem_cons.1 fJ with rfl | fJ
        · rw [aX];simp
        · exact ae bX fJ⟩
   | some d=>
     simp only
     cases ag:Nat.ble d top with
     | true=>
       simp only [cond_true]
       rw [T.gF]
       by_cases so:d=t
       · subst so;rw [if_pos rfl];exact .inl rfl
       · rw [if_neg (fun e=>so (fB e))]
         rcases Ai (r:=r) aD (l:=os) with h | ⟨aa,ae⟩
         · exact .inl h
         · exact .inr ⟨aa,fun bX fJ=>by
            rcases List.mem_cons.1 fJ with rfl | fJ
            · rw [aX];simpa using so
            · exact ae bX fJ⟩
     | false=>
       simp only [cond_false]
       have so:d≠t:=fun e=>by subst e;rw [←Nat.ble_eq] at aD;rw [aD] at ag;cases ag
       rcases Ai (r:=r) aD (l:=os) with h | ⟨aa,ae⟩
       · exact .inl h
       · exact .inr ⟨aa,fun bX fJ=>by
          rcases List.mem_cons.1 fJ with rfl | fJ
          · rw [aX];simpa using so
          · exact ae bX fJ⟩
theorem Ah {r:br}:∀{l:List Oper},T.get .bad ea (ma r l)=T.get .bad ea r
 | []=>rfl
 | o::os=>by
   simp only [ma]
   cases aX:o.dst with
   | none=>exact Ah
   | some d=>
     simp only
     cases ag:Nat.ble d top with
     | true=>
       simp only [cond_true]
       rw [T.gF,if_neg (s' (Nat.le_of_ble_eq_true ag))]
       exact Ah
     | false=>exact Ah
theorem KU {rd:Option Nat} {D:List Deferred} {au:Fr} (bx:dU P) (cy:∀i,fv P (calls i)) (c9:∀i,fF P (calls i)) (C:Cert P an ops calls es bO ba cC ax dN order aB N M lit) {gA:Env} {listed:Array Bool} {a:Act} {w:World} (I:nL P au an ops es bO ax dN aB gA N D listed a w)
 {i:Nat} (az:i ∈ Region.ready .any ops listed) (YV:posOf aB i<M) (sy:lit=true→∀o k ok,ops[i]? =some o→jk o=true→ops[k]? =some ok→jk ok=true→posOf aB k<posOf aB i→listed.getD k false=true) {Q:Exit→Act→World→Prop} {K:Act→World→Prop} (dk:∀bg aj,nL P au an ops es bO ax dN aB gA N D (listed.setIfInBounds i true) bg aj→K bg aj)
 (cP:∀ar bg aj x v ab,gA.le ar→N<ops.size→ops.size≤M→(∃i0 gi,ops[i0]? =some gi∧posOf aB i0=N∧(cg P an ops gi).run (calls i0) cC ax=.ck v ab)→RegRel0 ar an (ma bO ops.toList) bg→bg.defers=D→Rel ar v x→a1 au ar ab aj→Q (.panic (nA x)) bg aj):wpOpIn (bU rd) 0 P ops Q i K a w:=by
 rw [mem_ready] at az
 obtain ⟨E,s,F,kk,aQ,AY,kp,dm,il,ot,sJ⟩:=I.main
 obtain ⟨ni,o,cc,sq⟩:=az
 have fo:i<ops.size:=(Array.getElem?_eq_some_iff.1 cc).1
 have qQ:¬listed.getD i false=true:=by
  rw [qG]
  intro h
  rw [Array.getD_eq_getD_getElem?,h] at ni
  simp at ni
 have Mn:=x' I.down ops.toList [] (fun j=>by simp) (fun k m j aA=>by simp at aA)
 have uB:nN ops fun k=>listed.getD k false=true∨k=i:=by
  intro k ok e aA bt he ag
  rcases aA with aA | rfl
  · exact .inl (I.down k ok e aA bt he ag)
  · rw [cc] at bt;cases bt
    exact .inl (sq e (Array.mem_toList_iff.1 he) (by rw [tX];exact ag))
 have Y_:=x' uB ops.toList [] (fun j=>by simp) (fun k m j aA=>by simp at aA)
 obtain ⟨ct,kq,gQ,AW⟩:=C.kU i o cc
 have AW:=AW YV
 have Ff:=C.N'
 have xb:∀k,k≠i→eT ct k=true→listed.getD k false=true:=by
  intro k aA ag
  rcases Y_ i ct k kq ag (.inr rfl) with h | h
  · exact h
  · exact absurd h aA
 have h5:=(C.gI i fo).1
 have Zo:posOf aB i≤N:=by
  rcases Nat.lt_or_ge N (posOf aB i) with YQ | hle
  · exfalso
    have AF:ops.size≤M:=by
     rcases Nat.lt_or_ge M ops.size with h | h
     · have:=(C.tail h).1;omega
     · exact h
    obtain ⟨i0,gi,m0,cm,z2,z3,z4,z5,_⟩:=C.stop (by omega) AF
    have ag:=z5 i o ct cc YQ kq
    have aa:=xb i0 (fun e=>by subst e;omega) ag
    have:=I.mQ i0 aa
    omega
  · exact hle
 have uniq:∀(k bl:Nat) (ok iO:Oper) (t:Nat),ops[k]? =some ok→ops[bl]? =some iO→posOf aB k<M→posOf aB bl<M→ok.dst=some t→iO.dst=some t→k=bl:=by
  intro k bl ok iO t aa ae b7 b_ aF bu
  obtain ⟨mk,_,_,ah⟩:=C.kU k ok aa
  obtain ⟨mk',_,gH,_⟩:=ah b7 bl iO ae b_
  unfold mz at gH
  rw [fY] at gH
  by_cases h3:k=bl
  · exact h3
  · rw [if_neg h3,bu,aF] at gH
    simp at gH
 have Pr:iV (bS ops o)=true→∀t ∈ bS ops o,Rel E (T.get .bad (ay t) (dG es cC (posOf aB i))) (a.tmps.getD t undef):=by
  intro ZK t aD
  have u2:t≤top:=by
   have:=List.all_eq_true.1 ZK t aD
   exact Nat.le_of_ble_eq_true this
  have OC:∀(k:Nat) (ok:Oper),k≠i→posOf aB k<M→ops[k]? =some ok→ok.dst=some t→∃mk,(dW [] ops.toList)[k]? =some mk∧(posOf aB k<posOf aB i→eT ct k=true)∧(¬posOf aB k<posOf aB i→eT mk i=true):=by
   intro k ok aA FO bt aX
   obtain ⟨mk,aq,av,_⟩:=AW k ok bt FO
   refine ⟨mk,aq,?_⟩
   unfold mz at av
   rw [fY,if_neg (fun e=>aA e.symm),aX] at av
   simp only [Bool.and_eq_true] at av
   have aK:=av.1
   rw [show (bS ops o).contains t=true from by simpa using aD] at aK
   simp only [cond_true] at aK
   refine ⟨fun aP=>?_,fun h1=>?_⟩
   · rw [show Nat.blt (posOf aB k) (posOf aB i)=true from by rw [Nat.blt_eq];exact aP] at aK
     exact aK
   · rw [show Nat.blt (posOf aB k) (posOf aB i)=false from by rw [←Bool.not_eq_true,Nat.blt_eq];exact h1] at aK
     exact aK
  rcases C.HU (posOf aB i) Zo t u2 with ⟨k,ok,Ad,aq,av,aK,bD,dr⟩ | ⟨aq,av⟩
  · obtain ⟨mk,_,c2,_⟩:=OC k ok (fun e=>by subst e;omega) (by omega) av aK
    have Y8:=xb k (fun e=>by subst e;omega) (c2 aq)
    rcases sJ t u2 with ⟨bl,iO,EK,b2,cq,dR,ju,q_⟩ | ⟨b2,_⟩
    · have:=uniq k bl ok iO t av cq (by omega) (by have:=I.mQ bl b2;omega) aK dR
      subst this
      rw [bD] at ju;cases ju
      rw [dr];exact q_
    · exact absurd aK (b2 k ok Y8 av)
  · rcases sJ t u2 with ⟨bl,iO,EK,b2,cq,dR,ju,q_⟩ | ⟨_,cq⟩
    · have fp:bl≠i:=fun e=>qQ (e ▸ b2)
      obtain ⟨mk,m1,_,cL⟩:=OC bl iO fp (by have:=I.mQ bl b2;omega) cq dR
      by_cases aP:posOf aB bl<posOf aB i
      · exact absurd dR (aq bl iO aP cq)
      · exact absurd (Mn bl mk i m1 (cL aP) b2) qQ
    · rw [av];exact cq
 have level:eb P o.op=true→s≤posOf aB i→s=posOf aB i∧fr o=false:=by
  intro jJ hle
  rcases C.Qh s aQ with (h | ⟨h,AE⟩) | ⟨k,ok,cb,cB,fM⟩
  · omega
  · omega
  · have Mt:¬listed.getD k false=true:=fun h=>by have:=(kp k ok cb cB).1 h;omega
    have nd:=(Array.getElem?_eq_some_iff.1 cb).1
    by_cases fp:k=i
    · subst fp
      rw [cc] at cb;cases cb
      refine ⟨fM,?_⟩
      unfold dB at cB
      simpa [jJ] using cB
    · have aP:posOf aB k<posOf aB i:=by
       have:posOf aB k≠posOf aB i:=fun e=>fp (C.tb nd fo e)
       omega
      obtain ⟨mk,_,_,aK⟩:=AW k ok cb (by omega)
      rcases aK jJ cB aP with h | ⟨g1,g2,g3⟩
      · exact absurd (xb k fp h) Mt
      · exact absurd (sy g1 o k ok cc g2 cb g3 aP) Mt
 rcases Nat.lt_or_ge (posOf aB i) N with FY | ah7
 case inr=>
  have iK:posOf aB i=N:=by omega
  have AF:ops.size≤M:=by
   rcases Nat.lt_or_ge M ops.size with h | h
   · have:=(C.tail h).1;omega
   · exact h
  obtain ⟨i0,gi,m0,cm,z2,z3,z4,z5,aht,v,ab,II⟩:=C.stop (by omega) AF
  have YX:i0=i:=C.tb (Array.getElem?_eq_some_iff.1 cm).1 fo (by rw [z2,iK])
  subst YX
  rw [cc] at cm;cases cm
  rw [kq] at z4;cases z4
  obtain ⟨jJ,Ze⟩:=NZ z3
  have uG:dB P o=true:=by unfold dB;rw [jJ,Ze];rfl
  have Gq:s≤posOf aB i0:=by
   rcases Nat.lt_or_ge (posOf aB i0) s with h | h
   · exact absurd ((kp i0 o cc uG).2 h) qQ
   · exact h
  have uZ:=(level jJ Gq).1
  have kV:F=au:=il.none fun k aA=>by
   obtain ⟨ok,aq,av,aK,bD⟩:=aA
   have fp:k≠i0:=fun e=>by subst e;omega
   exact aK (xb k fp (aht k ok aq av.1 (by omega)))
  subst kV
  have c7:es[N]? =none:=List.getElem?_eq_none (by rw [C.len];exact Nat.le_refl _)
  have iL:=Pr (KM II).2
  rw [iK] at iL
  simp only [dG,c7] at iL
  rw [uZ,iK] at ot
  simp only [b0,c7] at ot
  refine Wp bx (cy i0) (c9 i0) cc II z3 I.size iL ot fun ar x aj aq av aK=>cP ar a aj x v ab (kk.trans aq) (by omega) AF ⟨i0,o,cc,iK,II⟩ ⟨I.size,fun t aD=>?_⟩ I.defers av aK
  rcases Ai (r:=bO) aD (l:=ops.toList) with h | ⟨aa,ae⟩
  · rw [h];simp [Rel]
  · rw [aa]
    rcases sJ t aD with ⟨k,ok,Ad,b2,cq,dR,ju,q_⟩ | ⟨b2,cq⟩
    · exact absurd dR (ae ok (by rw [←Array.getElem?_toList] at cq;exact List.mem_of_getElem? cq))
    · exact Rel.mono aq _ _ cq
 obtain ⟨e,kX,cA,aif⟩:=C.step i o cc FY
 have fQ:=iE cA
 have eC:dG es cC (posOf aB i)=e.r:=by simp [dG,kX]
 have h2:b0 es ax (posOf aB i)=e.h:=by simp [b0,kX]
 have reads:=Pr fQ.2
 rw [eC] at reads
 have e4:i<listed.size:=by rw [I.pW];exact fo
 have after:∀(fC:Nat) (dx:Fr) (ar:Env) (x:Value) (aj:World),fC ∈ dN→fC≤N→(∀k ok,ops[k]? =some ok→dB P ok=true→((k=i∨listed.getD k false=true)↔posOf aB k<fC))→
  (∀k ok,ops[k]? =some ok→fr ok=true→(k=i∨listed.getD k false=true)→posOf aB k<fC)→
  Holds au dx es ax aB (ic ops es ax aB (listed.setIfInBounds i true) fC)→E.le ar→Rel ar e.v x→a1 dx ar (b0 es ax fC) aj→
  nL P au an ops es bO ax dN aB gA N D (listed.setIfInBounds i true) (a.put o.dst x) aj:=by
  intro fC dx ar x aj hM ZL eD Ym YR hle ak ZJ
  refine ⟨by simp [I.pW],by cases h:o.dst<;>simp [Act.put,I.size],by cases h:o.dst<;>simp [Act.put,I.defers],fun k aA=>by
   rcases (eN e4).1 aA with rfl | aA
   · exact FY
   · exact I.mQ k aA,?_,ar,fC,dx,kk.trans hle,hM,ZL,fun k ok aa ae=>by rw [eN e4];exact eD k ok aa ae,
   fun k ok aa ae aF=>Ym k ok aa ae ((eN e4).1 aF),YR,ZJ,fun t aD=>?_⟩
  · intro k ok cU aA bt dA ag
    rw [eN e4] at aA ⊢
    rcases uB k ok cU aA.symm bt dA ag with h | h
    · exact .inr h
    · exact .inl h
  · by_cases aX:o.dst=some t
    · refine .inl ⟨i,o,e,by rw [eN e4];exact .inl rfl,cc,aX,kX,?_⟩
      have aP:t<a.tmps.size:=by
       have:=fQ.1
       rw [aX] at this
       simp only [ew,Bool.and_eq_true,Nat.blt_eq] at this
       rw [I.size];exact this.1
      rw [aX]
      simp only [Act.put]
      rw [Array.getD_eq_getD_getElem?,Array.getElem?_setIfInBounds,if_pos rfl,if_pos aP]
      exact ak
    · have dj:(a.put o.dst x).tmps.getD t undef=a.tmps.getD t undef:=by
       cases F_:o.dst with
       | none=>rfl
       | some d=>
         simp only [Act.put]
         rw [Array.getD_eq_getD_getElem?,Array.getD_eq_getD_getElem?,Array.getElem?_setIfInBounds,if_neg (fun e=>aX (by rw [F_,e]))]
      rw [dj]
      rcases sJ t aD with ⟨k,ok,Ad,b2,cq,dR,ju,q_⟩ | ⟨b2,cq⟩
      · exact .inl ⟨k,ok,Ad,by rw [eN e4];exact .inr b2,cq,dR,ju,Rel.mono hle _ _ q_⟩
      · refine .inr ⟨fun k ok aA bt=>?_,Rel.mono hle _ _ cq⟩
        rw [eN e4] at aA
        rcases aA with rfl | aA
        · rw [cc] at bt;cases bt;exact aX
        · exact b2 k ok aA bt
 have Fz:¬(fr o=true∧Made es ax aB i)→∀fC k,ic ops es ax aB (listed.setIfInBounds i true) fC k↔ic ops es ax aB listed fC k:=by
  intro bn fC k
  constructor
  · rintro ⟨ok,aq,av,aK,bD⟩
    exact ⟨ok,aq,av,fun h=>aK ((eN e4).2 (.inr h)),bD⟩
  · rintro ⟨ok,aq,av,aK,bD⟩
    refine ⟨ok,aq,av,fun h=>?_,bD⟩
    rcases (eN e4).1 h with rfl | h
    · rw [cc] at aq;cases aq;exact bn av
    · exact aK h
 cases jJ:eb P o.op with
 | true=>
   cases bn:fr o with
   | true=>
     have aP:posOf aB i<s:=by
      rcases Nat.lt_or_ge (posOf aB i) s with h | h
      · exact h
      · have:=(level jJ h).2
        rw [bn] at this;cases this
     by_cases hm:Made es ax aB i
     case neg=>
      have Gl:(cg P an ops o).run (calls i) e.r (b0 es ax s)=.val e.v (b0 es ax s):=by
       rcases KO bn cA with ⟨cJ,cb,_⟩ | ⟨_,cb⟩
       · exact absurd (show Made es ax aB i from by unfold Made;rw [cb,h2];exact Nat.succ_ne_self _) hm
       · exact cb _
      refine nY bx (cy i) (c9 i) cc Gl I.size reads ot fun ar x aj aq av aK=>dk _ _ (after s F ar x aj aQ AY (fun k ok bt hL=>?_) (fun k ok bt nc aA=>?_) (il.congr fun k=>Fz (fun h=>hm h.2) s k) aq av aK)
      · constructor
        · rintro (rfl | h)
          · rw [cc] at bt;cases bt
            unfold dB at hL
            rw [bn] at hL
            simp at hL
          · exact (kp k ok bt hL).1 h
        · intro h
          exact .inr ((kp k ok bt hL).2 h)
      · rcases aA with rfl | aA
        · exact aP
        · exact dm k ok bt nc aA
     have jf:ic ops es ax aB listed s i:=⟨o,cc,⟨bn,hm⟩,qQ,aP⟩
     have F0:(b0 es ax (posOf aB i+1)).next≠e.h.next:=by rw [←h2];exact hm
     have k3:nameAt es ax aB i=ay e.h.next:=by unfold nameAt;rw [h2]
     have kt:=(il.new i jf).1
     have u5:=(il.new i jf).2
     have hZ:wF es ax aB i=(b0 es ax (posOf aB i+1)).get (ay e.h.next):=by unfold wF;rw [k3]
     rw [k3,hZ] at kt
     refine Wn cc bn cA I.size reads ot F0 kt fun ar x aj aq av aK=>dk _ _ (after s (F.free (ay e.h.next)) ar x aj aQ AY (fun k ok bt hL=>?_) (fun k ok bt nc aA=>?_) ?_ aq av aK)
     · constructor
       · rintro (rfl | h)
         · rw [cc] at bt;cases bt
           unfold dB at hL
           rw [bn] at hL
           simp at hL
         · exact (kp k ok bt hL).1 h
       · intro h
         exact .inr ((kp k ok bt hL).2 h)
     · rcases aA with rfl | aA
       · exact aP
       · exact dm k ok bt nc aA
     · have sub:∀k,ic ops es ax aB (listed.setIfInBounds i true) s k→ic ops es ax aB listed s k∧k≠i:=by
        rintro k ⟨ok,aq,av,aK,bD⟩
        refine ⟨⟨ok,aq,av,fun h=>aK ((eN e4).2 (.inr h)),bD⟩,fun e=>aK ((eN e4).2 (.inl e))⟩
       refine ⟨il.w,fun b ag=>?_,fun k aA=>?_,fun k bl aA fz=>il.inj k bl (sub k aA).1 (sub bl fz).1⟩
       · by_cases lD:b=ay e.h.next
         · subst lD
           simp only [Fr.free,if_true]
           rw [←k3,u5]
         · simp only [Fr.free,if_neg lD]
           refine il.bR b fun k aA=>?_
           by_cases fp:k=i
           · subst fp;rw [k3];exact fun e=>lD e.symm
           · obtain ⟨ok,aq,av,aK,bD⟩:=aA
             refine ag k ⟨ok,aq,av,fun h=>?_,bD⟩
             rcases (eN e4).1 h with h | h
             · exact fp h
             · exact aK h
       · obtain ⟨uL,fp⟩:=sub k aA
         have cZ:nameAt es ax aB k≠ay e.h.next:=fun e=>fp (il.inj k i uL jf (by rw [e,k3]))
         simp only [Fr.free,if_neg cZ]
         exact il.new k uL
   | false=>
     have uG:dB P o=true:=by unfold dB;rw [jJ,bn];rfl
     have Gq:s≤posOf aB i:=by
      rcases Nat.lt_or_ge (posOf aB i) s with h | h
      · exact absurd ((kp i o cc uG).2 h) qQ
      · exact h
     have uZ:=(level jJ Gq).1
     rw [←h2,←uZ] at cA
     refine nY bx (cy i) (c9 i) cc cA I.size reads ot fun ar x aj aq av aK=>?_
     rw [uZ] at aK
     have Y7:∀k ok,ops[k]? =some ok→fr ok=true→posOf aB i+1≤posOf aB k→¬(listed.setIfInBounds i true).getD k false=true:=by
      intro k ok bt nc ah h
      rcases (eN e4).1 h with rfl | h
      · omega
      · have:=dm k ok bt nc h
        omega
     have YU:Holds au F es ax aB (ic ops es ax aB (listed.setIfInBounds i true) (posOf aB i+1)):=by
      refine il.congr fun k=>?_
      rw [Fz (fun h=>by rw [bn] at h;cases h.1)]
      constructor
      · rintro ⟨ok,cm,z2,z3,z4⟩
        refine ⟨ok,cm,z2,z3,?_⟩
        have nd:=(Array.getElem?_eq_some_iff.1 cm).1
        have:posOf aB k≠posOf aB i:=fun e=>by
         have:=C.tb nd fo e
         subst this
         rw [cc] at cm;cases cm
         rw [bn] at z2;cases z2.1
        omega
      · rintro ⟨ok,cm,z2,z3,z4⟩
        exact ⟨ok,cm,z2,z3,by omega⟩
     obtain ⟨fC,dx,g1,g2,g3,g4,g5,g6⟩:=C.advance (N - (posOf aB i+1)) (posOf aB i+1) (by omega) Y7 F YU aK
     refine dk _ _ (after fC dx ar x aj g1 g3 (fun k ok bt hL=>?_) (fun k ok bt nc aA=>?_) g5 aq av g6)
     · have nd:=(Array.getElem?_eq_some_iff.1 bt).1
       constructor
       · rintro (rfl | h)
         · omega
         · have:=(kp k ok bt hL).1 h
           omega
       · intro h
         by_cases fp:k=i
         · exact .inl fp
         · refine .inr ((kp k ok bt hL).2 ?_)
           rcases Nat.lt_or_ge (posOf aB k) s with a' | a'
           · exact a'
           · have cZ:posOf aB k≠posOf aB i:=fun e=>fp (C.tb nd fo e)
             have:=g4 k ok bt hL (by omega)
             omega
     · rcases aA with rfl | aA
       · omega
       · have:=dm k ok bt nc aA
         omega
 | false=>
   have bn:fr o=false:=by
    cases h:fr o with
    | false=>rfl
    | true=>rw [aas h] at jJ;cases jJ
   obtain ⟨c,ao,Gl⟩:∃c,(fv P c∧fF P c)∧(cg P an ops o).run c e.r (b0 es ax s)=.val e.v (b0 es ax s):=by
    cases ek:looks o.op with
    | false=>exact ⟨_,⟨cy i,c9 i⟩,(r5 jJ cA).2 ek _⟩
    | true=>
      obtain ⟨cU,aq,av⟩:=C.ask i o cc ek jJ FY
      rw [kX] at aq;cases aq
      obtain ⟨c,ab,ao,aK⟩:=av s aQ (IJ (by rw [G7];simp) fun k mk ok aa ae=>by
       simp only [Nat.zero_add]
       have bt:ops[k]? =some ok:=by simpa using ae
       cases sz:dB P ok with
       | false=>rfl
       | true=>
         simp only [cond_true]
         cases jh:Nat.blt (posOf aB k) s with
         | true=>
           rw [Nat.blt_eq] at jh
           simp only [cond_true,Bool.not_eq_true']
           cases ag:eT mk i with
           | false=>rfl
           | true=>exact absurd (Mn k mk i aa ag ((kp k ok bt sz).2 jh)) qQ
         | false=>
           have Y4:¬posOf aB k<s:=by rw [←Nat.blt_eq,jh];simp
           simp only [cond_false,Bool.not_eq_true',kq,Option.getD_some]
           cases ag:eT ct k with
           | false=>rfl
           | true=>
             by_cases fp:k=i
             · subst fp
               rw [cc] at bt;cases bt
               unfold dB at sz
               rw [jJ] at sz;cases sz
             · exact absurd ((kp k ok bt sz).1 (xb k fp ag)) Y4)
      rw [(r5 jJ aK).1] at aK
      exact ⟨c,ao,aK⟩
   refine nY bx ao.1 ao.2 cc Gl I.size reads ot fun ar x aj aq av aK=>dk _ _ (after s F ar x aj aQ AY (fun k ok bt hL=>?_) (fun k ok bt nc aA=>?_) (il.congr fun k=>Fz (fun h=>by rw [bn] at h;cases h.1) s k) aq av aK)
   · constructor
     · rintro (rfl | h)
       · rw [cc] at bt;cases bt
         unfold dB at hL
         rw [jJ] at hL;cases hL
       · exact (kp k ok bt hL).1 h
     · intro h
       exact .inr ((kp k ok bt hL).2 h)
   · rcases aA with rfl | aA
     · rw [cc] at bt;cases bt;rw [bn] at nc;cases nc
     · exact dm k ok bt nc aA
theorem KL {D:List Deferred} {au:Fr} (C:Cert P an ops calls es bO ba cC ax dN order aB N M lit) {gA:Env} (Ff:N≤M) {listed:Array Bool} {a:Act} {w:World} (I:nL P au an ops es bO ax dN aB gA N D listed a w)
 (dm:∀k,k<ops.size→posOf aB k<N→listed.getD k false=true):∃ar,gA.le ar∧RegRel0 ar an cC a∧a.defers=D∧a1 au ar ax w:=by
 obtain ⟨E,s,F,kk,aQ,AY,kp,_,il,ot,sJ⟩:=I.main
 have c7:es[N]? =none:=List.getElem?_eq_none (by rw [C.len];exact Nat.le_refl _)
 have oh:b0 es ax N=ax:=by simp [b0,c7]
 have ME:dG es cC N=cC:=by simp [dG,c7]
 have uZ:s=N:=by
  rcases C.Qh s aQ with (h | ⟨h,_⟩) | ⟨k,ok,cb,cB,fM⟩
  · have:=C.yd;omega
  · exact h
  · rcases Nat.lt_or_ge s N with aP | h1
    · have:=(kp k ok cb cB).1 (dm k (Array.getElem?_eq_some_iff.1 cb).1 (by omega))
      omega
    · omega
 subst uZ
 have kV:F=au:=il.none fun k aA=>by
  obtain ⟨ok,aq,av,aK,bD⟩:=aA
  exact aK (dm k (Array.getElem?_eq_some_iff.1 aq).1 bD)
 subst kV
 rw [oh] at ot
 have AE:∀k,posOf aB k<s→posOf aB k<M:=fun k h=>by omega
 refine ⟨E,kk,⟨I.size,fun t aD=>?_⟩,I.defers,ot⟩
 have ZW:∀(k bl:Nat) (ok iO:Oper),ops[k]? =some ok→ops[bl]? =some iO→posOf aB k<s→posOf aB bl<s→ok.dst=some t→iO.dst=some t→k=bl:=by
  intro k bl ok iO aa ae b7 b_ aF bu
  obtain ⟨mk,_,_,ah⟩:=C.kU k ok aa
  obtain ⟨mk',_,gH,_⟩:=ah (AE k b7) bl iO ae (AE bl b_)
  unfold mz at gH
  rw [fY] at gH
  by_cases h3:k=bl
  · exact h3
  · rw [if_neg h3,bu,aF] at gH
    simp at gH
 rcases C.HU s (Nat.le_refl _) t aD with ⟨k,ok,Ad,aq,av,aK,bD,dr⟩ | ⟨aq,av⟩
 · rw [ME] at dr
   rcases sJ t aD with ⟨bl,iO,EK,b2,cq,dR,ju,q_⟩ | ⟨b2,_⟩
   · have:=ZW k bl ok iO av cq aq (I.mQ bl b2) aK dR
     subst this
     rw [bD] at ju;cases ju
     rw [dr];exact q_
   · exact absurd aK (b2 k ok (dm k (Array.getElem?_eq_some_iff.1 av).1 aq) av)
 · rw [ME] at av
   rcases sJ t aD with ⟨bl,iO,EK,b2,cq,dR,ju,q_⟩ | ⟨_,cq⟩
   · exact absurd dR (aq bl iO (I.mQ bl b2) cq)
   · rw [av];exact cq
theorem KT {rd:Option Nat} {D:List Deferred} {au:Fr} (bx:dU P) (cy:∀i,fv P (calls i)) (c9:∀i,fF P (calls i)) (C:Cert P an ops calls es bO ba cC ax dN order aB N M false) {gA:Env} {Q:Exit→Act→World→Prop}
 (cP:N=ops.size→∀ar bg aj,gA.le ar→RegRel0 ar an cC bg→bg.defers=D→a1 au ar ax aj→Q .normal bg aj)
 (fy:∀ar bg aj x v ab,gA.le ar→N<ops.size→ops.size≤M→(∃i0 gi,ops[i0]? =some gi∧posOf aB i0=N∧(cg P an ops gi).run (calls i0) cC ax=.ck v ab)→RegRel0 ar an (ma bO ops.toList) bg→bg.defers=D→Rel ar v x→a1 au ar ab aj→Q (.panic (nA x)) bg aj)
 (dI:M<ops.size→∀(fuel:Nat) (listed:Array Bool) ar bg aj,(List.range ops.size).countP (fun i=>!listed.getD i false)≤fuel→listed.size=ops.size→nN ops (fun k=>listed.getD k false=true)→(∀k,k<ops.size→(listed.getD k false=true↔posOf aB k<N))→
   gA.le ar→RegRel0 ar an cC bg→bg.defers=D→a1 au ar ax aj→wpAnyIn (bU rd) 0 P .any ops Q fuel listed bg aj):∀(fuel:Nat) (listed:Array Bool) (a:Act) (w:World),(List.range ops.size).countP (fun i=>!listed.getD i false)≤fuel→
 nL P au an ops es bO ax dN aB gA N D listed a w→wpAnyIn (bU rd) 0 P .any ops Q fuel listed a w:=by
 have done:∀(listed:Array Bool) (a:Act) (w:World),nL P au an ops es bO ax dN aB gA N D listed a w→Region.ready .any ops listed=[]→∀i,i<ops.size→listed.getD i false=true:=by
  intro listed a w I aH i
  induction i using Nat.strongRecOn with
  | _ i bf=>
    intro az
    cases e4:listed.getD i false with
    | true=>rfl
    | false=>
      exfalso
      have cc:ops[i]? =some ops[i]:=Array.getElem?_eq_getElem az
      obtain ⟨ct,_,gQ,_⟩:=C.kU i _ cc
      have:i ∈ Region.ready .any ops listed:=by
       rw [mem_ready]
       refine ⟨?_,ops[i],cc,fun e he ag=>?_⟩
       · have b5:i<listed.size:=by rw [I.pW];exact az
         rw [Array.getD_eq_getD_getElem?,Array.getElem?_eq_getElem b5] at e4 ⊢
         exact e4
       · have aa:=List.all_eq_true.1 gQ e (Array.mem_toList_iff.2 he)
         rw [tX] at ag
         rw [ag] at aa
         simp only [Bool.not_true,Bool.false_or,Nat.blt_eq] at aa
         exact bf e.on aa (by omega)
      rw [aH] at this
      simp at this
 have Ff:=C.N'
 have full:∀(listed:Array Bool) (a:Act) (w:World),nL P au an ops es bO ax dN aB gA N D listed a w→(∀k,k<ops.size→posOf aB k<N→listed.getD k false=true)→(N=ops.size∨(M<ops.size∧M=N))→
  ∃ar,gA.le ar∧RegRel0 ar an cC a∧a.defers=D∧a1 au ar ax w:=fun _ _ _ I dm _=>KL C Ff I dm
 have finish:∀(listed:Array Bool) (a:Act) (w:World),nL P au an ops es bO ax dN aB gA N D listed a w→Region.ready .any ops listed=[]→Q .normal a w:=by
  intro listed a w I aH
  have dm:=done listed a w I aH
  have Fg:N=ops.size:=by
   rcases Nat.lt_or_ge N ops.size with aP | h1
   · exfalso
     obtain ⟨i,sx,lE⟩:=C.jt N aP
     have:=I.mQ i (dm i sx)
     omega
   · exact Nat.le_antisymm C.yd h1
  obtain ⟨ar,g1,g2,g3,g4⟩:=full listed a w I (fun k aA _=>dm k aA) (.inl Fg)
  exact cP Fg ar a w g1 g2 g3 g4
 intro fuel
 induction fuel with
 | zero=>
   intro listed a w ao I
   have dm:∀i,i<ops.size→listed.getD i false=true:=by
    intro i az
    have ba:(List.range ops.size).countP (fun i=>!listed.getD i false)=0:=by omega
    rw [List.countP_eq_zero] at ba
    simpa using ba i (List.mem_range.2 az)
   have aH:Region.ready .any ops listed=[]:=by
    cases aC:Region.ready .any ops listed with
    | nil=>rfl
    | cons j aaz=>
      exfalso
      have bI:j ∈ Region.ready .any ops listed:=by rw [aC];simp
      rw [mem_ready] at bI
      obtain ⟨aa,o,ae,_⟩:=bI
      have:=dm j (Array.getElem?_eq_some_iff.1 ae).1
      rw [qG] at this
      rw [Array.getD_eq_getD_getElem?,this] at aa
      simp at aa
   exact ⟨aH,finish listed a w I aH⟩
 | succ fuel bf=>
   intro listed a w ao I
   by_cases AZ:M<ops.size∧∀k,k<ops.size→posOf aB k<N→listed.getD k false=true
   · obtain ⟨sf,dm⟩:=AZ
     obtain ⟨ar,g1,g2,g3,g4⟩:=full listed a w I dm (.inr ⟨sf,(C.tail sf).1⟩)
     exact dI sf (fuel+1) listed ar a w ao I.pW I.down (fun k aA=>⟨I.mQ k,dm k aA⟩) g1 g2 g3 g4
   have xF:∀i,i ∈ Region.ready .any ops listed→posOf aB i<M:=by
    intro i az
    have lE:=az
    rw [mem_ready] at lE
    obtain ⟨aa,o,ae,sq⟩:=lE
    have fo:i<ops.size:=(Array.getElem?_eq_some_iff.1 ae).1
    rcases Nat.lt_or_ge M ops.size with sf | sf
    · obtain ⟨AE,u0⟩:=C.tail sf
      rcases Nat.lt_or_ge (posOf aB i) N with aP | h1
      · omega
      · exfalso
        refine AZ ⟨sf,fun k aA FP=>?_⟩
        obtain ⟨ct,kq,_⟩:=C.kU i o ae
        have ag:=u0 i o ct ae h1 kq k aA FP
        have uB:nN ops fun k=>listed.getD k false=true∨k=i:=by
         intro k ok e aA bt he ag
         rcases aA with aA | rfl
         · exact .inl (I.down k ok e aA bt he ag)
         · rw [ae] at bt;cases bt
           exact .inl (sq e (Array.mem_toList_iff.1 he) (by rw [tX];exact ag))
        rcases x' uB ops.toList [] (fun j=>by simp) (fun k m j aA=>by simp at aA) i ct k kq ag (.inr rfl) with h | h
        · exact h
        · subst h;omega
    · have:=(C.gI i fo).1
      omega
   refine ⟨fun aH=>finish listed a w I aH,fun i az=>?_⟩
   refine KU bx cy c9 C I az (xF i az) (fun h=>by cases h) (fun bg aj CT=>bf _ bg aj ?_ CT) fy
   have lE:=az
   rw [mem_ready] at lE
   obtain ⟨aa,o,ae,_⟩:=lE
   have fo:i<ops.size:=(Array.getElem?_eq_some_iff.1 ae).1
   have e4:i<listed.size:=by rw [I.pW];exact fo
   have qQ:listed.getD i false=false:=by
    rw [Array.getD_eq_getD_getElem?,Array.getElem?_eq_getElem e4] at aa ⊢
    exact aa
   have:=z1 (fun k=>!listed.getD k false) (fun k=>!(listed.setIfInBounds i true).getD k false) (List.range ops.size)
    (fun k _ aA=>by
      simp only [Bool.not_eq_true'] at aA ⊢
      cases aC:listed.getD k false with
      | false=>rfl
      | true=>
        have:=(eN (k:=k) e4).2 (.inr aC)
        rw [aA] at this
        cases this)
    ⟨i,List.mem_range.2 fo,by simp [qQ],by
      have:=(eN (k:=i) e4).2 (.inl rfl)
      simp [this]⟩
   omega
theorem af.set_comm (h:af) {b bC:aO} (cZ:b≠bC) (k bl:bW):(h.set b k).set bC bl=(h.set bC bl).set b k:=by
 unfold af.set
 simp only
 rw [T.put_comm _ _ _ _ _ _ (fun e=>cZ e.symm)]
theorem Im {o:Oper} {x:Operand} (h:qa o=some x):∃t y,o.op=.store t x y∧o.dst=none∧o.guard=none:=by
 unfold qa at h
 split at h
 case h_2=>cases h
 rename_i t QN y aR
 split at h
 case h_2=>cases h
 rename_i aX
 split at h
 case h_2=>cases h
 rename_i aG
 cases h
 exact ⟨t,y,aR,aX,aG⟩
theorem acF {h ab:af} {b:aO} {off:Nat} {ad:List V} (he:lay h b off ad=some ab):∃k,ab=h.set b k∧∀H:af,H.get b=h.get b→lay H b off ad=some (H.set b k):=by
 unfold lay at he ⊢
 cases aG:h.get b<;>rw [aG] at he<;>simp only [bW.on] at he<;>try (cases he;done)
 obtain ⟨ao,aa⟩:=dL he
 cases aa
 refine ⟨_,rfl,fun H jf=>?_⟩
 rw [jf]
 simp only [bW.on,ao,cond_true]
theorem KQ {all:Array Oper} {o:Oper} {x:Operand} {call:dc} {r:br} {h ab:af} {v:V} (ak:qa o=some x) (he:(cg P an all o).run call r h=.val v ab):
 ∃b off k,(bE x).run (c8 r (bS all o))=.ptr b off∧ab=h.set b k∧∀H:af,H.get b=h.get b→(cg P an all o).run call r H=.val v (H.set b k):=by
 obtain ⟨t,y,aR,aX,aG⟩:=Im ak
 obtain ⟨aa,ae⟩:=iE he
 have key:cg P an all o=⟨hp none (et P o) (bS all o)⟩:=by
  unfold cg
  rw [show (ew an o.dst&&iV (bS all o))=true from by rw [aa,ae];rfl,aG]
  rfl
 rw [key] at he ⊢
 simp only [hp] at he ⊢
 have si:∀H,(et P o).run call (c8 r (bS all o)) H=gj .bad ((p_ P t).run H ((bE x).run (c8 r (bS all o))) ((bE y).run (c8 r (bS all o)))):=by
  intro H
  unfold et
  rw [aR]
 rw [si] at he
 cases aQ:(p_ P t).run h ((bE x).run (c8 r (bS all o))) ((bE y).run (c8 r (bS all o))) with
 | none=>rw [aQ] at he;cases he
 | some aF=>
   rw [aQ] at he
   simp only [gj,aV.val.injEq] at he
   obtain ⟨rfl,rfl⟩:=he
   unfold p_ at aQ
   cases aD:a7 P t with
   | none=>rw [aD] at aQ;cases aQ
   | some aM=>
     rw [aD] at aQ
     simp only [tl] at aQ
     obtain ⟨b,off,ah,bu⟩:=vs aQ
     obtain ⟨ao,cd⟩:=dL bu
     obtain ⟨k,cb,cB⟩:=acF cd
     refine ⟨b,off,k,ah,cb,fun H jf=>?_⟩
     rw [si]
     unfold p_
     rw [aD]
     simp only [tl,ah,V.hQ,ao,cond_true,cB H jf,gj]
theorem vz {listed:Array Bool} (gQ:∀i o,ops[i]? =some o→kB i o=true) (b5:listed.size=ops.size) (aH:Region.ready .any ops listed=[]):∀i,i<ops.size→listed.getD i false=true:=by
 intro i
 induction i using Nat.strongRecOn with
 | _ i bf=>
   intro az
   cases e4:listed.getD i false with
   | true=>rfl
   | false=>
     exfalso
     have cc:ops[i]? =some ops[i]:=Array.getElem?_eq_getElem az
     have gQ:=gQ i _ cc
     have:i ∈ Region.ready .any ops listed:=by
      rw [mem_ready]
      refine ⟨?_,ops[i],cc,fun e he ag=>?_⟩
      · have aQ:i<listed.size:=by rw [b5];exact az
        rw [Array.getD_eq_getD_getElem?,Array.getElem?_eq_getElem aQ] at e4 ⊢
        exact e4
      · have aa:=List.all_eq_true.1 gQ e (Array.mem_toList_iff.2 he)
        rw [tX] at ag
        rw [ag] at aa
        simp only [Bool.not_true,Bool.false_or,Nat.blt_eq] at aa
        exact bf e.on aa (by omega)
     rw [aH] at this
     simp at this
theorem tg {listed:Array Bool} {i:Nat} (ahE:listed.size=ops.size) (az:i ∈ Region.ready .any ops listed):i<ops.size∧¬listed.getD i false=true:=by
 rw [mem_ready] at az
 obtain ⟨aa,o,ae,_⟩:=az
 refine ⟨(Array.getElem?_eq_some_iff.1 ae).1,fun h=>?_⟩
 rw [qG] at h
 rw [Array.getD_eq_getD_getElem?,h] at aa
 simp at aa
theorem Ir {rd:Option Nat} {au:Fr} (bx:dU P) (cy:fv P call) (c9:fF P call) (gQ:∀i o,ops[i]? =some o→kB i o=true) {i:Nat} {o:Oper} (cc:ops[i]? =some o) (aX:o.dst=none) {r:br} {h ab:af} {v:V}
 (he:(cg P an ops o).run call r h=.val v ab) {Q:Exit→Act→World→Prop} {E:Env} {a:Act} {w:World} (k:eA E an r a) (s:a1 au E h w) (cP:∀ar aj,E.le ar→a1 au ar ab aj→Q .normal a aj)
 {listed:Array Bool} (b5:listed.size=ops.size) (dm:∀j,j<ops.size→(listed.getD j false=true↔j≠i)) (fuel:Nat) (ax:1≤fuel):wpAnyIn (bU rd) 0 P .any ops Q fuel listed a w:=by
 have fo:i<ops.size:=(Array.getElem?_eq_some_iff.1 cc).1
 have e4:i<listed.size:=by rw [b5];exact fo
 cases fuel with
 | zero=>omega
 | succ fuel=>
   refine ⟨fun aH=>absurd (vz gQ b5 aH i fo) (fun h=>((dm i fo).1 h) rfl),fun j bI=>?_⟩
   obtain ⟨xX,sU⟩:=tg b5 bI
   have Y0:j=i:=by
    rcases Nat.decEq j i with cZ | he
    · exact absurd ((dm j xX).2 cZ) sU
    · exact he
   subst Y0
   refine nY bx cy c9 cc he k.size (fun t aD=>k.aE t (Nat.le_of_ble_eq_true (List.all_eq_true.1 (iE he).2 t aD))) s fun ar x aj aq av aK=>?_
   rw [aX]
   refine wpAnyIn_done ?_ (cP ar aj aq aK) fuel
   cases aH:Region.ready .any ops (listed.setIfInBounds j true) with
   | nil=>rfl
   | cons m ms=>
     exfalso
     have hm:m ∈ Region.ready .any ops (listed.setIfInBounds j true):=by rw [aH];simp
     obtain ⟨m1,m2⟩:=tg (by simp [b5]) hm
     refine m2 ((eN e4).2 ?_)
     by_cases Mo:m=j
     · exact .inl Mo
     · exact .inr ((dm m m1).2 Mo)
theorem agy {rd:Option Nat} {au:Fr} (bx:dU P) (cy:fv P call) (c9:fF P call) (gQ:∀i o,ops[i]? =some o→kB i o=true) {i j:Nat} {o p:Oper} (cc:ops[i]? =some o) (lF:ops[j]? =some p) (k0:i≠j) (aX:o.dst=none) (kt:p.dst=none)
 {r:br} {h aa hJ ae:af} {v eh u fD:V} (he:(cg P an ops o).run call r h=.val v aa) (ah:(cg P an ops p).run call r aa=.val u ae) (fK:(cg P an ops p).run call r h=.val fD hJ) (dA:(cg P an ops o).run call r hJ=.val eh ae)
 {Q:Exit→Act→World→Prop} {E:Env} {a:Act} {w:World} (k:eA E an r a) (s:a1 au E h w) (cP:∀ar aj,E.le ar→a1 au ar ae aj→Q .normal a aj)
 {listed:Array Bool} (b5:listed.size=ops.size) (dm:∀m,m<ops.size→(listed.getD m false=true↔(m≠i∧m≠j))) (fuel:Nat) (ax:2≤fuel):wpAnyIn (bU rd) 0 P .any ops Q fuel listed a w:=by
 have fo:i<ops.size:=(Array.getElem?_eq_some_iff.1 cc).1
 have FM:j<ops.size:=(Array.getElem?_eq_some_iff.1 lF).1
 have iL:∀{q:Oper} {H jz:af} {z:V},(cg P an ops q).run call r H=.val z jz→∀t ∈ bS ops q,Rel E (T.get .bad (ay t) r) (a.tmps.getD t undef):=
  fun he t aD=>k.aE t (Nat.le_of_ble_eq_true (List.all_eq_true.1 (iE he).2 t aD))
 cases fuel with
 | zero=>omega
 | succ fuel=>
   refine ⟨fun aH=>absurd (vz gQ b5 aH i fo) (fun h=>((dm i fo).1 h).1 rfl),fun m hm=>?_⟩
   obtain ⟨m1,m2⟩:=tg b5 hm
   have gr:m=i∨m=j:=by
    rcases Nat.decEq m i with cZ | he
    · rcases Nat.decEq m j with Zg | dM
      · exact absurd ((dm m m1).2 ⟨cZ,Zg⟩) m2
      · exact .inr dM
    · exact .inl he
   rcases gr with rfl | rfl
   · refine nY bx cy c9 cc he k.size (iL he) s fun ar x aj aq av aK=>?_
     rw [aX]
     have e4:m<listed.size:=by rw [b5];exact fo
     refine Ir bx cy c9 gQ lF kt ah (k.mono aq) aK (fun bQ bK b2 cq=>cP bQ bK (aq.trans b2) cq) (by simp [b5]) (fun z bh=>?_) fuel (by omega)
     rw [eN e4,dm z bh]
     constructor
     · rintro (rfl | h)
       · exact k0
       · exact h.2
     · intro h
       by_cases xR:z=m
       · exact .inl xR
       · exact .inr ⟨xR,h⟩
   · refine nY bx cy c9 lF fK k.size (iL fK) s fun ar x aj aq av aK=>?_
     rw [kt]
     have e4:m<listed.size:=by rw [b5];exact FM
     refine Ir bx cy c9 gQ cc aX dA (k.mono aq) aK (fun bQ bK b2 cq=>cP bQ bK (aq.trans b2) cq) (by simp [b5]) (fun z bh=>?_) fuel (by omega)
     rw [eN e4,dm z bh]
     constructor
     · rintro (rfl | h)
       · exact fun e=>k0 e.symm
       · exact h.1
     · intro h
       by_cases xR:z=m
       · exact .inl xR
       · exact .inr ⟨h,xR⟩
theorem QJ {rd:Option Nat} {id:Nat} {a:Act} {w:World} {Q:Exit→Act→World→Prop} (hm:P.follows .mixedOrders=true)
 (h:wpAnyIn (bU rd) 0 P .any ops Q ops.size (Array.replicate ops.size false) a {w with drawn:=w.drawn+1}):(Code.region id ops true).wpIn (bU rd) 0 P Q a w:=by
 refine wpIn_region_draw fun t=>?_
 rw [hm]
 exact wpAnyIn_sound _ _ _ _ _ h
theorem Iv {r bo:br}:∀{rs:List Nat},(∀t ∈ rs,T.get .bad (ay t) bo=T.get .bad (ay t) r)→c8 bo rs=c8 r rs
 | [],_=>rfl
 | t::cl,h=>by
   simp only [c8]
   rw [h t (by simp),Iv (rs:=cl) fun u hu=>h u (by simp [hu])]
theorem Wl {all:Array Oper} {o:Oper} {call:dc} {r bo:br} (h:∀t ∈ bS all o,T.get .bad (ay t) bo=T.get .bad (ay t) r) (H:af):(cg P an all o).run call bo H=(cg P an all o).run call r H:=by
 unfold cg
 cases ao:(ew an o.dst&&iV (bS all o)) with
 | false=>rfl
 | true=>
   simp only [cond_true]
   cases aG:o.guard with
   | none=>simp only [hp,Iv h]
   | some np=>
     obtain ⟨j,want⟩:=np
     simp only
     cases all[j]? with
     | none=>rfl
     | some g=>
       simp only
       cases g.dst with
       | none=>rfl
       | some d=>
         simp only
         cases (Nat.blt d an&&Nat.ble d top) with
         | false=>rfl
         | true=>simp only [cond_true,hp,Iv h]
theorem agx {rd:Option Nat} {au:Fr} (bx:dU P) (cy:fv P call) (c9:fF P call) (gQ:∀i o,ops[i]? =some o→kB i o=true) {l i j:Nat} {b o p:Oper} (sB:ops[l]? =some b) (cc:ops[i]? =some o) (lF:ops[j]? =some p)
 (e4:l≠i) (Mh:l≠j) (k0:i≠j) (aX:o.dst=none) (kt:p.dst=none) {r bz:br} {h aa hJ ae:af} {z v eh u fD:V}
 (ag:∀H,(cg P an ops b).run call r H=.val z H) (pK:bz=(eJ b.dst).run r z) (pM:∀t ∈ bS ops p,T.get .bad (ay t) bz=T.get .bad (ay t) r)
 (he:(cg P an ops o).run call bz h=.val v aa) (ah:(cg P an ops p).run call bz aa=.val u ae) (fK:(cg P an ops p).run call bz h=.val fD hJ) (dA:(cg P an ops o).run call bz hJ=.val eh ae)
 {Q:Exit→Act→World→Prop} {E:Env} {a:Act} {w:World} (k:eA E an r a) (s:a1 au E h w) (cP:∀ar bg aj,E.le ar→eA ar an bz bg→a1 au ar ae aj→Q .normal bg aj)
 {listed:Array Bool} (b5:listed.size=ops.size) (mW:nN ops fun k=>listed.getD k false=true) (Z0:∀ct,(dW [] ops.toList)[i]? =some ct→eT ct l=true) (kq:∃ct,(dW [] ops.toList)[i]? =some ct)
 (dm:∀m,m<ops.size→(listed.getD m false=true↔(m≠l∧m≠i∧m≠j))) (fuel:Nat) (ax:3≤fuel):wpAnyIn (bU rd) 0 P .any ops Q fuel listed a w:=by
 have AS:l<ops.size:=(Array.getElem?_eq_some_iff.1 sB).1
 have fo:i<ops.size:=(Array.getElem?_eq_some_iff.1 cc).1
 have FM:j<ops.size:=(Array.getElem?_eq_some_iff.1 lF).1
 have iL:∀{E:Env} {a:Act} {q:Oper} {R:br} {H jz:af} {z:V},eA E an R a→(cg P an ops q).run call R H=.val z jz→∀t ∈ bS ops q,Rel E (T.get .bad (ay t) R) (a.tmps.getD t undef):=
  fun k he t aD=>k.aE t (Nat.le_of_ble_eq_true (List.all_eq_true.1 (iE he).2 t aD))
 have Ob:∀(L:Array Bool),(nN ops fun k=>L.getD k false=true)→¬L.getD l false=true→i ∈ Region.ready .any ops L→False:=by
  intro L X' ni uO
  rw [mem_ready] at uO
  obtain ⟨_,bX,fJ,sq⟩:=uO
  rw [cc] at fJ;cases fJ
  obtain ⟨ct,kq⟩:=kq
  have uB:nN ops fun k=>L.getD k false=true∨k=i:=by
   intro k ok e aA bt he ag
   rcases aA with aA | rfl
   · exact .inl (X' k ok e aA bt he ag)
   · rw [cc] at bt;cases bt
     exact .inl (sq e (Array.mem_toList_iff.1 he) (by rw [tX];exact ag))
  rcases x' uB ops.toList [] (fun j=>by simp) (fun k m j aA=>by simp at aA) i ct l kq (Z0 ct kq) (.inr rfl) with h | h
  · exact ni h
  · exact e4 h
 have Wq:∀m,m ∈ Region.ready .any ops listed→nN ops fun k=>(listed.setIfInBounds m true).getD k false=true:=by
  intro m hm k ok e aA bt he ag
  have lH:=hm
  rw [mem_ready] at lH
  obtain ⟨_,my,Mx,sq⟩:=lH
  have Zc:m<listed.size:=by rw [b5];exact (Array.getElem?_eq_some_iff.1 Mx).1
  rw [eN Zc] at aA ⊢
  rcases aA with rfl | aA
  · rw [Mx] at bt;cases bt
    exact .inr (sq e (Array.mem_toList_iff.1 he) (by rw [tX];exact ag))
  · exact .inr (mW k ok e aA bt he ag)
 cases fuel with
 | zero=>omega
 | succ fuel=>
   refine ⟨fun aH=>absurd (vz gQ b5 aH i fo) (fun h=>((dm i fo).1 h).2.1 rfl),fun m hm=>?_⟩
   obtain ⟨m1,m2⟩:=tg b5 hm
   have gr:m=l∨m=j:=by
    rcases Nat.decEq m l with c1 | aN
    · rcases Nat.decEq m j with hO | aY
      · rcases Nat.decEq m i with n3 | cz
        · exact absurd ((dm m m1).2 ⟨c1,n3,hO⟩) m2
        · subst cz
          exact (Ob listed mW (fun h=>((dm l AS).1 h).1 rfl) hm).elim
      · exact .inr aY
    · exact .inl aN
   rcases gr with rfl | rfl
   · -- p first
     have jM:m<listed.size:=by rw [b5];exact AS
     refine nY bx cy c9 sB (ag h) k.size (iL k (ag h)) s fun ar x aj aq av aK=>?_
     have cb:eA ar an bz (a.put b.dst x):=by rw [pK];exact (k.mono aq).put (iE (ag h)).1 av
     refine agy bx cy c9 gQ cc lF k0 aX kt he ah fK dA cb aK (fun bQ bK b2 cq=>cP bQ _ bK (aq.trans b2) (cb.mono b2) cq) (by simp [b5]) (fun y a6=>?_) fuel (by omega)
     rw [eN jM,dm y a6]
     constructor
     · rintro (rfl | h)
       · exact ⟨e4,Mh⟩
       · exact h.2
     · intro h
       by_cases xP:y=m
       · exact .inl xP
       · exact .inr ⟨xP,h⟩
   · -- q first
     have jM:m<listed.size:=by rw [b5];exact FM
     have sE:(cg P an ops p).run call r h=.val fD hJ:=by rw [←Wl pM];exact fK
     have X_:=Wq m hm
     refine nY bx cy c9 lF sE k.size (iL k sE) s fun ar x aj aq av aK=>?_
     rw [kt]
     have sN:(listed.setIfInBounds m true).size=ops.size:=by simp [b5]
     cases fuel with
     | zero=>omega
     | succ fuel=>
       refine ⟨fun aH=>absurd (vz gQ sN aH i fo) (fun h=>?_),fun y a6=>?_⟩
       · rcases (eN jM).1 h with e | h
         · exact k0 e
         · exact ((dm i fo).1 h).2.1 rfl
       obtain ⟨dH,fW⟩:=tg sN a6
       have Z7:y=l:=by
        rcases Nat.decEq y l with c1 | aN
        · rcases Nat.decEq y i with n3 | cz
          · exfalso
            refine fW ((eN jM).2 ?_)
            by_cases xP:y=m
            · exact .inl xP
            · exact .inr ((dm y dH).2 ⟨c1,n3,xP⟩)
          · subst cz
            refine (Ob _ X_ (fun h=>?_) a6).elim
            rcases (eN jM).1 h with e | h
            · exact Mh e
            · exact ((dm l AS).1 h).1 rfl
        · exact aN
       subst Z7
       have bl:=k.mono aq
       refine nY bx cy c9 sB (ag hJ) bl.size (iL bl (ag hJ)) aK fun bQ fu bK t1 t2 t3=>?_
       have cb:eA bQ an bz (a.put b.dst fu):=by rw [pK];exact (bl.mono t1).put (iE (ag h)).1 t2
       have FZ:y < (listed.setIfInBounds m true).size:=by rw [sN];exact AS
       refine Ir bx cy c9 gQ cc aX dA cb t3 (fun lp mJ b2 cq=>cP lp _ mJ (aq.trans (t1.trans b2)) (cb.mono b2) cq) (by simp [b5]) (fun g aG=>?_) fuel (by omega)
       rw [eN FZ,eN jM,dm g aG]
       constructor
       · rintro (rfl | rfl | h)
         · exact e4
         · exact fun e=>k0 e.symm
         · exact h.2.1
       · intro h
         by_cases aN:g=y
         · exact .inl aN
         · by_cases aY:g=m
           · exact .inr (.inl aY)
           · exact .inr (.inr ⟨aN,h,aY⟩)
theorem ED {rd:Option Nat} {au:Fr} {E:Env} {h:af} {w:World} {id:Nat} (cO:P.follows .mixedOrders=true) (bx:dU P) (cy:fv P call) (c9:fF P call) {r:br} {a:Act}
 {Q:Exit→Act→World→Prop} (k:eA E an r a) (s:a1 au E h w) {es:List d_} {ey:br} {a':af} {order aB dN:List Nat} {N M:Nat} (C:Cert P an ops (fun _=>call) es r h ey a' dN order aB N M false)
 (cP:N=ops.size→∀ar bg aj,E.le ar→eA ar an ey bg→a1 au ar a' aj→Q .normal bg aj)
 (fy:∀ar bg aj x v ab,E.le ar→N<ops.size→ops.size≤M→(∃i0 gi,ops[i0]? =some gi∧posOf aB i0=N∧(cg P an ops gi).run call ey a'=.ck v ab)→eA ar an (ma r ops.toList) bg→Rel ar v x→a1 au ar ab aj→Q (.panic (nA x)) bg aj)
 (dI:M<ops.size→∀(fuel:Nat) (listed:Array Bool) ar bg aj,(List.range ops.size).countP (fun i=>!listed.getD i false)≤fuel→listed.size=ops.size→nN ops (fun k=>listed.getD k false=true)→(∀k,k<ops.size→(listed.getD k false=true↔posOf aB k<N))→
   E.le ar→eA ar an ey bg→a1 au ar a' aj→wpAnyIn (bU rd) 0 P .any ops Q fuel listed bg aj):
 (Code.region id ops true).wpIn (bU rd) 0 P Q a w:=by
 have c7:∀k,¬(Array.replicate ops.size false).getD k false=true:=by
  intro k
  rw [qG,Array.getElem?_replicate]
  split<;>simp
 have il:Holds au au es a' aB (ic ops es a' aB (Array.replicate ops.size false) 0):=
  ⟨rfl,fun _ _=>rfl,fun k aA=>(by obtain ⟨_,_,_,_,ba⟩:=aA;omega),fun k bl aA=>(by obtain ⟨_,_,_,_,ba⟩:=aA;omega)⟩
 obtain ⟨fC,dx,g1,g2,g3,g4,g5,g6⟩:=C.advance N 0 (by omega) (fun k o _ _ _=>c7 k) au il (E:=E) (w:={w with drawn:=w.drawn}) (by rw [C.ba];exact s.same rfl rfl rfl rfl)
 have jI:∀(ar:Env) (bg:Act),E.le ar→bg.defers=a.defers→∀(bo:br),T.get .bad ea bo=T.get .bad ea r→jy ar (T.get .bad ea bo) bg.defers:=fun ar bg he aX bo pJ=>by rw [pJ,aX];exact k.defers.mono he
 have AL:T.get .bad ea ey=T.get .bad ea r:=by
  have:=C.EE N (Nat.le_refl _)
  have F8:es[N]? =none:=List.getElem?_eq_none (by rw [C.len];exact Nat.le_refl _)
  simpa [dG,F8] using this
 refine QJ cO (KT bx (fun _=>cy) (fun _=>c9) C (gA:=E) (D:=a.defers)
  (fun aZ ar bg aj aq av aK bD=>cP aZ ar bg aj aq ⟨av,jI ar bg aq aK ey AL⟩ bD)
  (fun ar bg aj x v ab aq av Pn aK bD dr fi jv=>fy ar bg aj x v ab aq av Pn aK ⟨bD,jI ar bg aq dr _ Ah⟩ fi jv)
  (fun g0 fuel listed ar bg aj g1 g2 g3 g4 aq av aK bD=>dI g0 fuel listed ar bg aj g1 g2 g3 g4 aq ⟨av,jI ar bg aq aK ey AL⟩ bD) ops.size _ a _ ?_ ?_)
 · exact Nat.le_trans List.countP_le_length (by simp)
 · refine ⟨by simp,k.size,rfl,fun bl aA=>absurd aA (c7 bl),fun bl o e aA=>absurd aA (c7 bl),E,fC,dx,Env.le.refl E,g1,g3,fun bl o aa ae=>⟨fun h=>absurd h (c7 bl),fun h=>by have:=g4 bl o aa ae (Nat.zero_le _);omega⟩,
    fun bl o _ _ h=>absurd h (c7 bl),g5,?_,fun t aD=>.inr ⟨fun bl o aA=>absurd aA (c7 bl),k.aE t aD⟩⟩
   exact g6.same rfl rfl rfl rfl
theorem OP {n:Nat} {order aB:List Nat} (e0:j0 n order aB=true):order.length=n∧(∀k,k<n→posOf aB k<n∧order[posOf aB k]? =some k)∧∀p,p<n→∃i,i<n∧posOf aB i=p:=by
 unfold j0 at e0
 simp only [Bool.and_eq_true,Nat.beq_eq] at e0
 obtain ⟨mg,uR,xv,xw⟩:=e0
 refine ⟨mg,fun k aA=>?_,fun p ah=>?_⟩
 · have aG:aB[k]? =some (posOf aB k):=by
    unfold posOf
    rw [List.getElem?_eq_getElem (by omega)]
    rfl
   have:=rf xv aG
   rw [Nat.zero_add] at this
   exact ⟨by have:=(List.getElem?_eq_some_iff.1 this).1;omega,this⟩
 · have aG:order[p]? =some (order[p]'(by omega)):=List.getElem?_eq_getElem (by omega)
   have:=rf xw aG
   rw [Nat.zero_add] at this
   refine ⟨order[p]'(by omega),by have:=(List.getElem?_eq_some_iff.1 this).1;omega,?_⟩
   unfold posOf
   rw [this]
   rfl
theorem agv {order aB:List Nat} (ax:yK P ops order aB=true):3≤ops.size∧∀i o,ops[i]? =some o→∃ct,(dW [] ops.toList)[i]? =some ct∧kB i o=true∧
 (posOf aB i<ops.size-3→∀k ok,ops[k]? =some ok→posOf aB k<ops.size-3→∃mk,(dW [] ops.toList)[k]? =some mk∧mz i ct (bS ops o) o.dst k mk ok (Nat.blt (posOf aB k) (posOf aB i))=true∧(eb P o.op=true→dB P ok=true→posOf aB k<posOf aB i→eT ct k=true))∧
 (¬posOf aB i<ops.size-3→Cr P ops order aB (ops.size-3) i ct o=true):=by
 unfold yK at ax
 simp only [Bool.and_eq_true,Nat.ble_eq] at ax
 refine ⟨ax.1,fun i o az=>?_⟩
 obtain ⟨ct,aa,ae⟩:=nJ ax.2 i o (by simpa using az)
 simp only [Nat.zero_add,Bool.and_eq_true] at ae
 refine ⟨ct,aa,ae.1,fun aP k ok aA nd=>?_,fun h1=>?_⟩
 · have aF:=ae.2
   rw [show Nat.blt (posOf aB i) (ops.size-3)=true from by rw [Nat.blt_eq];exact aP] at aF
   simp only [cond_true] at aF
   obtain ⟨mk,cb,cB⟩:=nJ aF k ok (by simpa using aA)
   simp only [Nat.zero_add] at cB
   rw [show Nat.blt (posOf aB k) (ops.size-3)=true from by rw [Nat.blt_eq];exact nd] at cB
   simp only [cond_true,Bool.and_eq_true] at cB
   refine ⟨mk,cb,cB.1,fun aN aY aP=>?_⟩
   have fM:=cB.2
   rw [aN,aY,Bool.true_and,show Nat.blt (posOf aB k) (posOf aB i)=true from by rw [Nat.blt_eq];exact aP] at fM
   exact fM
 · have aF:=ae.2
   rw [show Nat.blt (posOf aB i) (ops.size-3)=false from by rw [←Bool.not_eq_true,Nat.blt_eq];exact h1] at aF
   exact aF
theorem agw {order aB:List Nat} {N i ct p:Nat} {o BP:Oper} (ah:order[N]? =some p) (jO:ops[p]? =some BP) (h:Cr P ops order aB N i ct o=true):
 (∀k,k<ops.size→posOf aB k<N→eT ct k=true)∧(posOf aB i=N→eb P o.op=false∧looks o.op=false)∧(posOf aB i≠N→∃x,qa o=some x)∧
 (posOf aB i=N+1→eT ct p=true)∧(posOf aB i=N+2→∀t ∈ bS ops o,BP.dst≠some t):=by
 unfold Cr at h
 rw [ah] at h
 simp only [Bool.and_eq_true] at h
 obtain ⟨⟨aa,ae⟩,aF,bu⟩:=h
 refine ⟨fun k aA FP=>?_,fun e=>?_,fun e=>?_,fun e=>?_,fun e t aD=>?_⟩
 · obtain ⟨mk,cb,cB⟩:=nJ aa k ops[k] (by simp)
   simp only [Nat.zero_add] at cB
   rw [show Nat.blt (posOf aB k) N=true from by rw [Nat.blt_eq];exact FP] at cB
   exact cB
 · rw [fY,if_pos e] at ae
   simpa using ae
 · rw [fY,if_neg e] at ae
   exact Option.isSome_iff_exists.1 ae
 · rw [fY,if_pos e] at aF
   exact aF
 · rw [fY,if_pos e,jO] at bu
   simp only at bu
   intro aX
   rw [aX] at bu
   simp only [Bool.not_eq_true'] at bu
   rw [show (bS ops o).contains t=true from by simpa using aD] at bu
   cases bu
theorem Fx {es:List d_} {a':af} {N p:Nat} (ah:p≤N):b0 (es.take N) (b0 es a' N) p=b0 es a' p:=by
 by_cases h:p<N
 · cases he:es[p]? with
   | some e=>simp [b0,h,he]
   | none=>
     have aZ:es[N]? =none:=List.getElem?_eq_none (by have:=List.getElem?_eq_none_iff.1 he;omega)
     simp [b0,h,he,aZ]
 · have:p=N:=by omega
   subst this
   simp [b0,List.getElem?_take]
theorem Pw {es:List d_} {ey:br} {N p:Nat} (ah:p≤N):dG (es.take N) (dG es ey N) p=dG es ey p:=by
 by_cases h:p<N
 · cases he:es[p]? with
   | some e=>simp [dG,h,he]
   | none=>
     have aZ:es[N]? =none:=List.getElem?_eq_none (by have:=List.getElem?_eq_none_iff.1 he;omega)
     simp [dG,h,he,aZ]
 · have:p=N:=by omega
   subst this
   simp [dG,List.getElem?_take]
theorem Si {order:List Nat} {es:List d_} {N i j:Nat} {o p:Oper} {e f:d_} {x y:Operand} (bn:zz ops order es N=true) (az:order[N]? =some i) (bI:order[N+1]? =some j) (cc:ops[i]? =some o) (lF:ops[j]? =some p)
 (he:es[N]? =some e) (ax:es[N+1]? =some f) (ak:qa o=some x) (a6:qa p=some y) {b c:aO} {off lT:Nat} (ag:(bE x).run (c8 e.r (bS ops o))=.ptr b off) (ao:(bE y).run (c8 f.r (bS ops p))=.ptr c lT):b≠c:=by
 unfold zz Io at bn
 simp only [az,bI,cc,lF,he,ax,ak,a6,ag,ao] at bn
 intro h
 subst h
 rw [aO.w0] at bn
 cases bn
set_option maxHeartbeats 2000000 in
theorem Ws {rd:Option Nat} {au:Fr} {E:Env} {h:af} {w:World} {id:Nat} (cO:P.follows .mixedOrders=true) (bx:dU P) (cy:fv P call) (c9:fF P call) {r:br} {a:Act} {order aB:List Nat} (e0:j0 ops.size order aB=true) (fQ:yK P ops order aB=true)
 {Q:Exit→Act→World→Prop} (ah:lv au E an (Q .normal) Q (EC ops order (eH P an ops (fU ops order)) (o8 P an ops (dW [] ops.toList) aB (gh P aB 0 ops.toList) 0 ops.toList) call r h)) (k:eA E an r a) (s:a1 au E h w):(Code.region id ops true).wpIn (bU rd) 0 P Q a w:=by
 obtain ⟨mg,gI,jt⟩:=OP e0
 obtain ⟨ae,fQ⟩:=agv fQ
 unfold EC at ah
 cases cn:(eH P an ops (fU ops order)).run call r h with
 | fail=>rw [cn] at ah;exact ah.elim
 | ck _ _ _ _ _=>rw [cn] at ah;exact ah.elim
 | ok es ey a'=>
   rw [cn] at ah
   simp only at ah
   obtain ⟨N,Yi⟩:∃N,N=ops.size-3:=⟨_,rfl⟩
   rw [←Yi] at ah fQ
   cases aC:(zz ops order es (N+1)&&(o8 P an ops (dW [] ops.toList) aB (gh P aB 0 ops.toList) 0 ops.toList).run call (es.take N) (b0 es a' N)) with
   | false=>rw [aC] at ah;exact ah.elim
   | true=>
     rw [aC] at ah
     simp only [cond_true] at ah
     simp only [Bool.and_eq_true] at aC
     obtain ⟨AJ,w_⟩:=aC
     obtain ⟨aq,av,aK,bD⟩:=rv cn
     have hlen:es.length=ops.size:=by rw [aq,nz,mg]
     have inj:∀i j,i<ops.size→j<ops.size→posOf aB i=posOf aB j→i=j:=by
      intro i j az bI he
      have a:=(gI i az).2
      have b:=(gI j bI).2
      rw [he,b] at a
      cases a
      rfl
     obtain ⟨kv,qJ,uC⟩:=jt N (by omega)
     obtain ⟨mi,uz,uA⟩:=jt (N+1) (by omega)
     obtain ⟨ox,oc,po⟩:=jt (N+2) (by omega)
     have xl:ops[kv]? =some ops[kv]:=Array.getElem?_eq_getElem qJ
     have AO:ops[mi]? =some ops[mi]:=Array.getElem?_eq_getElem uz
     have AP:ops[ox]? =some ops[ox]:=Array.getElem?_eq_getElem oc
     have Gd:=(gI kv qJ).2
     have Gb:=(gI mi uz).2
     have Gc:=(gI ox oc).2
     rw [uC] at Gd
     rw [uA] at Gb
     rw [po] at Gc
     have u0:∀i o,ops[i]? =some o→¬posOf aB i<N→∃ct,(dW [] ops.toList)[i]? =some ct∧(∀k,k<ops.size→posOf aB k<N→eT ct k=true)∧(posOf aB i=N→eb P o.op=false∧looks o.op=false)∧(posOf aB i≠N→∃x,qa o=some x)∧
      (posOf aB i=N+1→eT ct kv=true)∧(posOf aB i=N+2→∀t ∈ bS ops o,ops[kv].dst≠some t):=by
      intro i o az h1
      obtain ⟨ct,cm,_,_,z4⟩:=fQ i o az
      exact ⟨ct,cm,agw Gd xl (z4 h1)⟩
     obtain ⟨air,_,_,agu,_⟩:=u0 kv _ xl (by omega)
     obtain ⟨adj,Mm,_,_,ags,aw,_⟩:=u0 mi _ AO (by omega)
     obtain ⟨aiq,ah',_,_,agt,_,HR⟩:=u0 ox _ AP (by omega)
     obtain ⟨KX,ade⟩:=agu uC
     obtain ⟨aiY,Gz⟩:=ags (by omega)
     obtain ⟨aiZ,GA⟩:=agt (by omega)
     have aw:=aw uA
     have HR:=HR po
     obtain ⟨EI,e6,ht,x1⟩:=bD _ _ (lj Gd xl)
     obtain ⟨r7,bH,a2,a3⟩:=bD _ _ (lj Gb AO)
     obtain ⟨KW,b7,b_,gN⟩:=bD _ _ (lj Gc AP)
     obtain ⟨aiP,ai2,adY,KE,ahR⟩:=Im Gz
     obtain ⟨aiQ,ai3,aiz,KF,ahS⟩:=Im GA
     have c7:es[N+2+1]? =none:=List.getElem?_eq_none (by omega)
     have Y6:b0 es a' (N+2+1)=a':=by simp [b0,c7]
     have afm:dG es ey (N+2+1)=ey:=by simp [dG,c7]
     have Yh:b0 es a' N=EI.h:=by simp [b0,e6]
     have ae7:dG es ey N=EI.r:=by simp [dG,e6]
     have Yf:b0 es a' (N+1)=r7.h:=by simp [b0,bH]
     have ae5:dG es ey (N+1)=r7.r:=by simp [dG,bH]
     have Yg:b0 es a' (N+1+1)=KW.h:=by simp [b0,b7]
     have ae6:dG es ey (N+1+1)=KW.r:=by simp [dG,b7]
     rw [ae5] at x1
     rw [Yf] at ht
     rw [KE,ae6] at a3
     rw [KF,afm] at gN
     simp only [eJ] at a3 gN
     rw [Yg] at a2
     rw [Y6] at b_
     obtain ⟨Ye,Fc⟩:=r5 KX ht
     have Fc:=Fc ade
     obtain ⟨JQ,aiA,aaA,aez,PR,agU⟩:=KQ Gz a2
     obtain ⟨Du,aiB,Ng,aeA,afD,agV⟩:=KQ GA b_
     have cZ:JQ≠Du:=Si AJ Gb Gc AO AP bH b7 Gz GA aez aeA
     have Fb:=agV r7.h (by rw [PR,af.di,if_neg cZ])
     have w':=agU (r7.h.set Du Ng) (by rw [af.di,if_neg (fun e=>cZ e.symm)])
     have YA:(r7.h.set Du Ng).set JQ aaA=a':=by rw [af.set_comm _ (fun e=>cZ e.symm),←PR,←afD]
     rw [YA] at w'
     rw [a3] at Fb b_
     have sL:ey=r7.r:=gN.trans a3
     have Zd:∀m,m<ops.size→(posOf aB m<N↔(m≠kv∧m≠mi∧m≠ox)):=by
      intro m hm
      have aid:=(gI m hm).1
      constructor
      · intro h
        exact ⟨fun e=>by subst e;omega,fun e=>by subst e;omega,fun e=>by subst e;omega⟩
      · rintro ⟨cp,c1,hO⟩
        have l8:posOf aB m≠N:=fun e=>cp (inj m kv hm qJ (by rw [e,uC]))
        have bs:posOf aB m≠N+1:=fun e=>c1 (inj m mi hm uz (by rw [e,uA]))
        have bN:posOf aB m≠N+2:=fun e=>hO (inj m ox hm oc (by rw [e,po]))
        omega
     have Yx:dB P ops[mi]=true:=by unfold dB fr;rw [adY];rfl
     have pM:∀t ∈ bS ops ops[ox],T.get .bad (ay t) r7.r=T.get .bad (ay t) EI.r:=by
      intro t aD
      have u2:t≤top:=Nat.le_of_ble_eq_true (List.all_eq_true.1 (iE b_).2 t aD)
      rw [x1,LH (iE ht).1 u2,if_neg (HR t aD)]
     have gu:∀i o,ops[i]? =some o→posOf aB i<N→∃e,(es.take N)[posOf aB i]? =some e∧(cg P an ops o).run call e.r e.h=.val e.v (b0 (es.take N) (b0 es a' N) (posOf aB i+1))∧dG (es.take N) (dG es ey N) (posOf aB i+1)=(eJ o.dst).run e.r e.v:=by
      intro i o aR az
      obtain ⟨e,cm,z2,z3⟩:=bD _ o (lj (gI i (Array.getElem?_eq_some_iff.1 aR).1).2 aR)
      refine ⟨e,by simp [az,cm],?_,?_⟩
      · rw [Fx (by omega)];exact z2
      · rw [Pw (by omega)];exact z3
     have C:Cert P an ops (fun _=>call) (es.take N) r h (dG es ey N) (b0 es a' N) (N::gh P aB 0 ops.toList) order aB N N false:=
      ⟨by simp [hlen];omega,by omega,Nat.le_refl _,gI,jt,by rw [Fx (Nat.zero_le _)];exact av,by rw [Pw (Nat.zero_le _)];exact aK,gu,
        fun i o aR=>by
         obtain ⟨ct,cm,z2,z3,_⟩:=fQ i o aR
         exact ⟨ct,cm,z2,fun az k ok aA FO=>by
          obtain ⟨mk,dH,fW,y3⟩:=z3 az k ok aA FO
          exact ⟨mk,dH,fW,fun a b c=>.inl (y3 a b c)⟩⟩,
        by simp,
        fun j o aa ae=>List.mem_cons_of_mem _ (by simpa using vd (aB:=aB) (i:=0) (j:=j) (l:=ops.toList) (by simpa using aa) ae),
        fun s aQ=>by
         rcases List.mem_cons.1 aQ with rfl | aQ
         · exact .inl (.inr ⟨rfl,rfl⟩)
         · rcases q1 aQ with h | ⟨j,o,aa,ae,aF⟩
           · exact .inl (.inl (by simpa using h))
           · exact .inr ⟨j,o,by simpa using aa,ae,by simpa using aF⟩,
        fun j o aa ae aF bu=>by
         obtain ⟨e,g1,_⟩:=gu j o aa bu
         have ML:=Dp w_ j o (by simpa using aa) ae aF e (by simpa using g1)
         refine ⟨e,g1,fun s aQ hm=>?_⟩
         rcases List.mem_cons.1 aQ with rfl | aQ
         · have k2:pY P (dW [] ops.toList) ops.toList aB j (((dW [] ops.toList)[j]?).getD 0) (s+1)=true:=by
            unfold pY at hm ⊢
            refine IJ (by rw [G7];simp) fun cJ mk ok dH fW=>?_
            obtain ⟨mk',bm,fu⟩:=nJ hm cJ ok fW
            rw [dH] at bm;cases bm
            simp only [Nat.zero_add] at fu ⊢
            have bt:ops[cJ]? =some ok:=by simpa using fW
            have nd:=(Array.getElem?_eq_some_iff.1 bt).1
            by_cases jh:posOf aB cJ=s
            · have:cJ=kv:=inj cJ kv nd qJ (by rw [jh,uC])
              subst this
              rw [xl] at bt;cases bt
              have Zf:dB P ops[cJ]=false:=by unfold dB;rw [KX];rfl
              rw [Zf]
              rfl
            · have:Nat.blt (posOf aB cJ) (s+1)=Nat.blt (posOf aB cJ) s:=by
               rw [Bool.eq_iff_iff,Nat.blt_eq,Nat.blt_eq]
               omega
              rw [this]
              exact fu
           have uO:s+1 ∈ gh P aB 0 ops.toList:=by rw [←uA];simpa using vd (P:=P) (aB:=aB) (i:=0) (j:=mi) (l:=ops.toList) (by simp) Yx
           obtain ⟨ab,g3⟩:=ML (s+1) uO (by simpa using k2)
           refine ⟨call,ab,⟨cy,c9⟩,?_⟩
           have aN:b0 (es.take s) (b0 es a' s) (s+1)=b0 es a' s:=by
            have:(es.take s)[s+1]? =none:=List.getElem?_eq_none (by simp;omega)
            simp only [b0,this]
           have aY:b0 (es.take s) (b0 es a' s) s=b0 es a' s:=Fx (Nat.le_refl _)
           rw [aN] at g3
           rw [aY]
           exact g3
         · obtain ⟨ab,g3⟩:=ML s aQ (by simpa using hm)
           exact ⟨call,ab,⟨cy,c9⟩,g3⟩,
        fun _=>⟨rfl,fun cJ ok mk aA h1 F2 j bI xm=>by
         obtain ⟨ct,cm,z2,_⟩:=u0 cJ ok aA (by omega)
         rw [F2] at cm;cases cm
         exact z2 j bI xm⟩,
        fun aa ae=>by omega⟩
     refine ED cO bx cy c9 k s C (fun h=>by omega) (fun _ _ _ _ _ _ _ _ h=>by omega) (fun _ fuel listed ar bg aj g1 g2 g3 g4 g5 g6 g7=>?_)
     rw [ae7] at g6
     rw [Yh] at g7
     rw [Ye] at a2 Fb w'
     refine agx bx cy c9 (fun i o aR=>by obtain ⟨ct,_,z2,_⟩:=fQ i o aR;exact z2) xl AO AP (fun e=>by rw [e] at uC;omega) (fun e=>by rw [e] at uC;omega) (fun e=>by rw [e] at uA;omega) KE KF
      Fc x1 pM a2 b_ Fb w' g6 g7 (fun bQ a2 bK b2 cq dR=>ah bQ a2 bK (g5.trans b2) (by rw [sL];exact cq) dR) g2 g3 (fun ct kq=>by rw [Mm] at kq;cases kq;exact aw) ⟨adj,Mm⟩ (fun m hm=>(g4 m hm).trans (Zd m hm)) fuel ?_
     have Ew:∀(L:Array Bool) (x:Nat),L.size=ops.size→x<ops.size→¬L.getD x false=true→(List.range ops.size).countP (fun k=>!(L.setIfInBounds x true).getD k false) < (List.range ops.size).countP (fun k=>!L.getD k false):=by
      intro L x cV ak aZ
      have u7:x<L.size:=by rw [cV];exact ak
      refine z1 (fun k=>!L.getD k false) (fun k=>!(L.setIfInBounds x true).getD k false) (List.range ops.size) (fun k _ aA=>?_) ⟨x,List.mem_range.2 ak,?_,?_⟩
      · simp only [Bool.not_eq_true'] at aA ⊢
        cases aC:L.getD k false with
        | false=>rfl
        | true=>
          have:=(eN (k:=k) u7).2 (.inr aC)
          rw [aA] at this
          cases this
      · cases aC:L.getD x false with
        | false=>rfl
        | true=>exact absurd aC aZ
      · have:=(eN (k:=x) u7).2 (.inl rfl)
        simp [this]
     have adB:¬listed.getD kv false=true:=fun h=>by have:=(g4 kv qJ).1 h;omega
     have adz:¬listed.getD mi false=true:=fun h=>by have:=(g4 mi uz).1 h;omega
     have adA:¬listed.getD ox false=true:=fun h=>by have:=(g4 ox oc).1 h;omega
     have bs:=Ew listed kv g2 qJ adB
     have bN:=Ew (listed.setIfInBounds kv true) mi (by simp [g2]) uz (fun h=>by
      rcases (eN (by rw [g2];exact qJ)).1 h with e | h
      · rw [e] at uA;omega
      · exact adz h)
     have c3:=Ew ((listed.setIfInBounds kv true).setIfInBounds mi true) ox (by simp [g2]) oc (fun h=>by
      rcases (eN (by simp [g2];exact uz)).1 h with e | h
      · rw [e] at po;omega
      · rcases (eN (by rw [g2];exact qJ)).1 h with e | h
        · rw [e] at po;omega
        · exact adA h)
     omega
end
end Go.Proofs.YtkehcalakofigaaGreatDoor.aS
namespace Go.Proofs.YtkehcalakofigaaGreatDoor.aS
variable [Lay]
open Go Go.RowKit
section
variable {P:Program} {an:Nat} {ops:Array Oper} {call:dc}
inductive mK {α β:Type} (R:α→β→Prop):List α→List β→Prop
 | nil:mK R [] []
 | cons {a:α} {b:β} {G0:List α} {G1:List β} (h:R a b) (t:mK R G0 G1):mK R (a::G0) (b::G1)
def tf (ops:Array Oper) (t:Nat) (listed:Array Bool):Option Nat:=(Region.ready .any ops listed)[t % (Region.ready .any ops listed).length]?
theorem go_succ (fuel t:Nat) (listed:Array Bool):Region.linearise.go .any ops (fuel+1) t listed []=match tf ops t listed with
 | some i=>i::Region.linearise.go .any ops fuel (t / (Region.ready .any ops listed).length) (listed.setIfInBounds i true) []
 | none=>[]:=by
 simp only [Region.linearise.go]
 change (match (Region.ready .any ops listed)[t % (Region.ready .any ops listed).length]? with
  | some i=>Region.linearise.go .any ops fuel (t / (Region.ready .any ops listed).length) (listed.setIfInBounds i true) [i]
  | none=>[].reverse)=_
 unfold tf
 cases (Region.ready .any ops listed)[t % (Region.ready .any ops listed).length]? with
 | none=>rfl
 | some i=>
   simp only
   rw [linearise_go_acc,List.reverse_singleton,List.singleton_append]
theorem Ps {t:Nat} {listed:Array Bool} (h:tf ops t listed=none):Region.ready .any ops listed=[]:=by
 unfold tf at h
 cases aH:Region.ready .any ops listed with
 | nil=>rfl
 | cons x xs=>
   rw [aH] at h
   have aP:t % (x::xs).length < (x::xs).length:=Nat.mod_lt _ (by simp)
   rw [List.getElem?_eq_getElem aP] at h
   cases h
theorem HT {t i:Nat} {listed:Array Bool} (h:tf ops t listed=some i):i ∈ Region.ready .any ops listed:=List.mem_of_getElem? h
theorem count_set {listed:Array Bool} {i:Nat} (b5:listed.size=ops.size) (az:i<ops.size) (aZ:¬listed.getD i false=true):
 (List.range ops.size).countP (fun k=>!(listed.setIfInBounds i true).getD k false) < (List.range ops.size).countP (fun k=>!listed.getD k false):=by
 have ai:i<listed.size:=by rw [b5];exact az
 refine z1 (fun k=>!listed.getD k false) (fun k=>!(listed.setIfInBounds i true).getD k false) (List.range ops.size) (fun k _ aA=>?_) ⟨i,List.mem_range.2 az,?_,?_⟩
 · simp only [Bool.not_eq_true'] at aA ⊢
   cases aC:listed.getD k false with
   | false=>rfl
   | true=>
     have:=(eN (k:=k) ai).2 (.inr aC)
     rw [aA] at this
     cases this
 · cases aC:listed.getD i false with
   | false=>rfl
   | true=>exact absurd aC aZ
 · have:=(eN (k:=i) ai).2 (.inl rfl)
   simp [this]
theorem LK (gQ:∀i o,ops[i]? =some o→kB i o=true):∀(fuel t:Nat) (listed:Array Bool),listed.size=ops.size→(List.range ops.size).countP (fun i=>!listed.getD i false)≤fuel→
 (Region.linearise.go .any ops fuel t listed []).Nodup∧(∀k ∈ Region.linearise.go .any ops fuel t listed [],k<ops.size∧¬listed.getD k false=true)∧
  ∀k,k<ops.size→listed.getD k false=true∨k ∈ Region.linearise.go .any ops fuel t listed []
 | 0,t,listed,b5,ao=>by
   have e:Region.linearise.go .any ops 0 t listed []=[]:=rfl
   rw [e]
   refine ⟨List.nodup_nil,fun k aA=>by simp at aA,fun k aA=>.inl ?_⟩
   have ba:(List.range ops.size).countP (fun i=>!listed.getD i false)=0:=by omega
   rw [List.countP_eq_zero] at ba
   simpa using ba k (List.mem_range.2 aA)
 | fuel+1,t,listed,b5,ao=>by
   rw [go_succ]
   cases aH:tf ops t listed with
   | none=>
     simp only
     exact ⟨List.nodup_nil,fun k aA=>by simp at aA,fun k aA=>.inl (vz gQ b5 (Ps aH) k aA)⟩
   | some i=>
     simp only
     obtain ⟨i1,i2⟩:=tg b5 (HT aH)
     have ai:i<listed.size:=by rw [b5];exact i1
     have:=count_set b5 i1 i2
     obtain ⟨g1,g2,g3⟩:=LK gQ fuel (t / (Region.ready .any ops listed).length) (listed.setIfInBounds i true) (by simp [b5]) (by omega)
     refine ⟨List.nodup_cons.2 ⟨fun hm=>(g2 i hm).2 ((eN ai).2 (.inl rfl)),g1⟩,fun k aA=>?_,fun k aA=>?_⟩
     · rcases List.mem_cons.1 aA with rfl | aA
       · exact ⟨i1,i2⟩
       · exact ⟨(g2 k aA).1,fun h=>(g2 k aA).2 ((eN ai).2 (.inr h))⟩
     · rcases g3 k aA with h | h
       · rcases (eN ai).1 h with rfl | h
         · exact .inr (by simp)
         · exact .inl h
       · exact .inr (by simp [h])
theorem Co {o:Oper} {os:List Oper} {r:br} {h:af} {es:List d_} {cC:br} {ax:af} (he:(eH P an ops (o::os)).run call r h=.ok es cC ax):
 ∃v aa f',(cg P an ops o).run call r h=.val v aa∧(eH P an ops os).run call ((eJ o.dst).run r v) aa=.ok f' cC ax∧es=⟨r,h,v⟩::f':=by
 simp only [eH,yI] at he
 cases aa:(cg P an ops o).run call r h with
 | fail=>rw [aa] at he;cases he
 | ck _ _=>rw [aa] at he;simp only at he;cases hm:jX o.op<;>rw [hm] at he<;>cases he
 | val v a'=>
   rw [aa] at he
   simp only at he
   cases ae:(eH P an ops os).run call ((eJ o.dst).run r v) a' with
   | fail=>rw [ae] at he;cases he
   | ck _ _ _ _ _=>rw [ae] at he;cases he
   | ok f' bz aF=>
     rw [ae] at he
     simp only [nM.ok.injEq] at he
     obtain ⟨rfl,rfl,rfl⟩:=he
     exact ⟨v,a',f',rfl,ae,rfl⟩
theorem Cp {o:Oper} {os:List Oper} {r:br} {h aa:af} {v:V} {f':List d_} {cC:br} {ax:af} (ba:(cg P an ops o).run call r h=.val v aa) (ae:(eH P an ops os).run call ((eJ o.dst).run r v) aa=.ok f' cC ax):
 (eH P an ops (o::os)).run call r h=.ok (⟨r,h,v⟩::f') cC ax:=by
 simp only [eH,yI,ba,ae]
theorem Ik:∀(e6 ht:List Oper) {r:br} {h:af} {es:List d_} {cC:br} {ax:af},(eH P an ops (e6++ht)).run call r h=.ok es cC ax→
 ∃f' bz aa n1,(eH P an ops e6).run call r h=.ok f' bz aa∧(eH P an ops ht).run call bz aa=.ok n1 cC ax∧es=f'++n1
 | [],ht,r,h,es,cC,ax,he=>⟨[],r,h,es,rfl,he,rfl⟩
 | o::os,ht,r,h,es,cC,ax,he=>by
   obtain ⟨v,aa,f',aq,av,rfl⟩:=Co he
   obtain ⟨ES,bz,aF,n1,g1,g2,rfl⟩:=Ik os ht av
   exact ⟨⟨r,h,v⟩::ES,bz,aF,n1,Cp aq g1,g2,rfl⟩
theorem Il:∀(e6 ht:List Oper) {r bz cC:br} {h aa ax:af} {f' n1:List d_},(eH P an ops e6).run call r h=.ok f' bz aa→(eH P an ops ht).run call bz aa=.ok n1 cC ax→
 (eH P an ops (e6++ht)).run call r h=.ok (f'++n1) cC ax
 | [],ht,r,bz,cC,h,aa,ax,f',n1,he,ae=>by
   simp only [eH,nM.ok.injEq] at he
   obtain ⟨rfl,rfl,rfl⟩:=he
   exact ae
 | o::os,ht,r,bz,cC,h,aa,ax,f',n1,he,ae=>by
   obtain ⟨v,aF,ES,aq,av,rfl⟩:=Co he
   exact Cp aq (Il os ht av ae)
theorem yl:∀(a b:List Nat),fU ops (a++b)=fU ops a++fU ops b
 | [],b=>rfl
 | x::xs,b=>by simp [fU,yl xs b]
theorem Po:∀(l:List Oper),(∀o ∈ l,eb P o.op=false∧looks o.op=false)→∀{r cC:br} {h ax:af} {es:List d_},(eH P an ops l).run call r h=.ok es cC ax→
 ax=h∧∀H:af,∃hH,(eH P an ops l).run call r H=.ok hH cC H
 | [],_,r,cC,h,ax,es,he=>by
   simp only [eH,nM.ok.injEq] at he
   obtain ⟨rfl,rfl,rfl⟩:=he
   exact ⟨rfl,fun H=>⟨[],rfl⟩⟩
 | o::os,aC,r,cC,h,ax,es,he=>by
   obtain ⟨v,aa,f',aq,av,rfl⟩:=Co he
   obtain ⟨aN,aY⟩:=aC o (by simp)
   obtain ⟨d1,d2⟩:=r5 aN aq
   subst d1
   obtain ⟨g1,g2⟩:=Po os (fun bX fJ=>aC bX (by simp [fJ])) av
   refine ⟨g1,fun H=>?_⟩
   obtain ⟨hH,g3⟩:=g2 H
   exact ⟨_,Cp (d2 aY H) g3⟩
theorem xT {o:Oper} {A:tE} (h:jS o=some A):o.op=.insert A.t A.m A.k A.x∧o.dst=none∧o.guard=none:=by
 unfold jS at h
 split at h
 case h_2=>cases h
 rename_i t m k x aR
 split at h
 case h_2=>cases h
 rename_i aX
 split at h
 case h_2=>cases h
 rename_i aG
 cases h
 exact ⟨aR,aX,aG⟩
theorem Pj {e:db} {k v:V} {c:Nat}:∀{es:List b1},(∀m ∈ es,e.run k m.k=some false)→j2 e k v c es=some (es++[⟨k,v,c⟩],true)
 | [],_=>rfl
 | m::ms,h=>by
   simp only [j2,h m (by simp),cond_false,Pj (es:=ms) fun cW k2=>h cW (by simp [k2]),List.cons_append]
theorem Wm {o:Oper} {A:tE} (uM:xZ P A.t=true) (lC:jS o=some A) {r:br} {H1 cG:af} {v:V} (he:(cg P an ops o).run call r H1=.val v cG) {b:aO} (ag:(bE A.m).run (c8 r (bS ops o))=.map b):
 ∀(H:af) es c,H.get b=.mp es c→(∀m ∈ es,(q0 P A.t).run ((bE A.k).run (c8 r (bS ops o))) m.k=some false)→
  (cg P an ops o).run call r H=.val .bad (H.set b (.mp (es++[⟨(bE A.k).run (c8 r (bS ops o)),(bE A.x).run (c8 r (bS ops o)),c⟩]) (c+1))):=by
 obtain ⟨aR,aX,aG⟩:=xT lC
 obtain ⟨aa,ae⟩:=iE he
 have key:cg P an ops o=⟨hp none (et P o) (bS ops o)⟩:=by
  unfold cg
  rw [show (ew an o.dst&&iV (bS ops o))=true from by rw [aa,ae];rfl,aG]
  rfl
 rw [key] at he ⊢
 simp only [hp] at he ⊢
 have si:∀H,(et P o).run call (c8 r (bS ops o)) H=gj .bad ((mH P A.t).run H (.map b) ((bE A.k).run (c8 r (bS ops o))) ((bE A.x).run (c8 r (bS ops o)))):=by
  intro H
  unfold et
  rw [aR]
  simp only [ag]
 rw [si] at he
 have ZX:mH P A.t=⟨mI (q0 P A.t)⟩:=by
  cases aQ:(mH P A.t).run H1 (.map b) ((bE A.k).run (c8 r (bS ops o))) ((bE A.x).run (c8 r (bS ops o))) with
  | none=>rw [aQ] at he;cases he
  | some aF=>
    unfold mH at aQ ⊢
    unfold q0
    cases aD:a7 P A.t with
    | none=>rw [aD] at aQ;cases aQ
    | some aM=>
      rw [aD] at aQ
      simp only at aQ ⊢
      cases bJ:aM.bb<;>rw [bJ] at aQ<;>simp only at aQ ⊢<;>try (cases aQ;done)
      rename_i bV iF
      cases kn:a7 P bV with
      | none=>rw [kn] at aQ;cases aQ
      | some gg=>
        rw [kn] at aQ
        simp only at aQ ⊢
        cases ax:lM gg.bb with
        | false=>
          unfold xZ at uM
          rw [aD] at uM
          simp only [bJ,kn,ax] at uM
          cases uM
        | true=>rfl
 intro H es c jf aA
 rw [si,ZX]
 simp only [mI,jf,bW.iw,Pj aA,gj,cond_true]
theorem aaq {o:Oper} {r:br} {b:aO} {m:b1} (h:qX ops r b o=some m):∃A,jS o=some A∧(bE A.m).run (c8 r (bS ops o))=.map b∧m.k=(bE A.k).run (c8 r (bS ops o))∧m.v=(bE A.x).run (c8 r (bS ops o)):=by
 unfold qX at h
 cases bn:jS o with
 | none=>rw [bn] at h;cases h
 | some A=>
   rw [bn] at h
   simp only at h
   cases hm:(bE A.m).run (c8 r (bS ops o))<;>rw [hm] at h<;>simp only at h<;>try (cases h;done)
   obtain ⟨ao,aa⟩:=dL h
   have:=aO.kh ao
   subst this
   cases aa
   exact ⟨A,rfl,hm,rfl,rfl⟩
def iZ (ops:Array Oper) (r:br) (b:aO) (i:Nat) (m:b1):Prop:=∃o,ops[i]? =some o∧qX ops r b o=some m
theorem iZ.Ez {r:br} {b:aO} {i:Nat} {m cW:b1} (h:iZ ops r b i m) (ab:iZ ops r b i cW):m=cW:=by
 obtain ⟨o,aa,ae⟩:=h
 obtain ⟨bX,aF,bu⟩:=ab
 rw [aa] at aF;cases aF
 rw [ae] at bu;cases bu
 rfl
theorem A' {r:br} {b:aO}:∀{is:List Nat} {ms:List b1},sT ops r b is=some ms→mK (iZ ops r b) is ms
 | [],ms,h=>by simp only [sT,Option.some.injEq] at h;subst h;exact .nil
 | i::is,ms,h=>by
   simp only [sT] at h
   cases aR:ops[i]? with
   | none=>rw [aR] at h;cases h
   | some o=>
     rw [aR] at h
     simp only at h
     cases hm:qX ops r b o with
     | none=>rw [hm] at h;cases h
     | some m=>
       rw [hm] at h
       simp only at h
       cases aQ:sT ops r b is with
       | none=>rw [aQ] at h;cases h
       | some aiu=>
         rw [aQ] at h
         simp only [Option.some.injEq] at h
         subst h
         exact .cons ⟨o,aR,hm⟩ (A' aQ)
theorem Nc {x:Option Bool} (h:isFalse x=true):x=some false:=by
 cases x with
 | none=>cases h
 | some b=>cases b<;>simp_all [isFalse]
theorem Di {e:db} {m:b1}:∀{ms:List b1},zA e m ms=true→∀cW ∈ ms,e.run m.k cW.k=some false∧e.run cW.k m.k=some false
 | [],_,cW,h=>by simp at h
 | x::xs,h,cW,hm=>by
   simp only [zA,Bool.and_eq_true] at h
   rcases List.mem_cons.1 hm with rfl | hm
   · exact ⟨Nc h.1,Nc h.2.1⟩
   · exact Di h.2.2 cW hm
theorem JC {r:br} {b:aO} {e:db}:∀{is:List Nat} {ms:List b1},mK (iZ ops r b) is ms→is.Nodup→wy e ms=true→∀i j m cW,i ∈ is→j ∈ is→i≠j→iZ ops r b i m→iZ ops r b j cW→e.run m.k cW.k=some false
 | _,_,.nil,_,_,i,_,_,_,az,_,_,_,_=>by simp at az
 | _,_,.cons (a:=x) (b:=dF) (G0:=xs) (G1:=ady) ba aD,aZ,bn,i,j,m,cW,az,bI,k0,hm,k2=>by
   simp only [wy,Bool.and_eq_true] at bn
   rw [List.nodup_cons] at aZ
   have M1:∀k n,k ∈ xs→iZ ops r b k n→n ∈ ady:=by
    intro k n aA Y3
    have gen:∀{is:List Nat} {ms:List b1},mK (iZ ops r b) is ms→k ∈ is→n ∈ ms:=by
     intro is ms ax
     induction ax with
     | nil=>intro aA;simp at aA
     | cons aa _ bf=>
       intro aA
       rcases List.mem_cons.1 aA with rfl | aA
       · rw [Y3.Ez aa];simp
       · exact List.mem_cons_of_mem _ (bf aA)
    exact gen aD aA
   rcases List.mem_cons.1 az with Me | az
   · rcases List.mem_cons.1 bI with FN | bI
     · exact absurd (Me.trans FN.symm) k0
     · rw [Me] at hm
       rw [hm.Ez ba]
       exact (Di bn.1 cW (M1 j cW bI k2)).1
   · rcases List.mem_cons.1 bI with FN | bI
     · rw [FN] at k2
       rw [k2.Ez ba]
       exact (Di bn.1 m (M1 i m az hm)).2
     · exact JC aD aZ.2 bn.2 i j m cW az bI k0 hm k2
theorem GJ {hz:br} {b:aO} {e:db} {I:List Nat} (pr:∀i ∈ I,∃o A m,ops[i]? =some o∧jS o=some A∧(xZ P A.t=true∧q0 P A.t=e)∧qX ops hz b o=some m∧∃v H1 cG,(cg P an ops o).run call hz H1=.val v cG)
 (AI:∀i j m cW,i ∈ I→j ∈ I→i≠j→iZ ops hz b i m→iZ ops hz b j cW→e.run m.k cW.k=some false):
 ∀(τ:List Nat) (done:List Nat) (ds:List b1) (c:Nat) (H:af),(∀i ∈ τ,i ∈ I)→(∀i ∈ done,i ∈ I)→(done++τ).Nodup→(∀m ∈ ds,∃i ∈ done,∃cW,iZ ops hz b i cW∧m.k=cW.k)→H.get b=.mp ds c→
  ∃es ms eM jz,(eH P an ops (fU ops τ)).run call hz H=.ok es hz jz∧jz.get b=.mp (ds++ms) eM∧(∀k,b≠k→jz.get k=H.get k)∧(∀k,jz.set b k=H.set b k)∧(∀e ∈ es,∀k,b≠k→e.h.get k=H.get k)∧
   mK (fun i (m:b1)=>∃cW,iZ ops hz b i cW∧m.k=cW.k∧m.v=cW.v) τ ms
 | [],done,ds,c,H,_,_,_,_,jf=>⟨[],[],c,H,rfl,by rw [List.append_nil];exact jf,fun _ _=>rfl,fun _=>rfl,fun e he=>by simp at he,.nil⟩
 | i::τ,done,ds,c,H,A3,L7,mf,px,jf=>by
   obtain ⟨o,A,m,aR,lC,⟨uM,sz⟩,hm,v,H1,cG,cA⟩:=pr i (A3 i (by simp))
   obtain ⟨ib,LW,ag,aA,ak⟩:=aaq hm
   rw [lC] at LW;cases LW
   have oj:i ∉ done:=fun h=>by
    rw [List.nodup_append] at mf
    exact mf.2.2 i h i (by simp) rfl
   have gu:=Wm uM lC cA ag H ds c jf (fun cW k2=>by
    obtain ⟨j,bI,adt,YK,Y2⟩:=px cW k2
    rw [Y2,sz,←aA]
    exact AI i j m adt (A3 i (by simp)) (L7 j bI) (fun e=>oj (e ▸ bI)) ⟨o,aR,hm⟩ YK)
   obtain ⟨_,aX,_⟩:=xT lC
   obtain ⟨es,ms,eM,jz,g1,g2,g3,g4,g6,g5⟩:=GJ pr AI τ (done++[i]) (ds++[⟨(bE A.k).run (c8 hz (bS ops o)),(bE A.x).run (c8 hz (bS ops o)),c⟩]) (c+1)
    (H.set b (.mp (ds++[⟨(bE A.k).run (c8 hz (bS ops o)),(bE A.x).run (c8 hz (bS ops o)),c⟩]) (c+1))) (fun j bI=>A3 j (by simp [bI]))
    (fun j bI=>by
      rcases List.mem_append.1 bI with h | h
      · exact L7 j h
      · simp only [List.mem_singleton] at h;subst h;exact A3 j (by simp)) (by simpa using mf)
    (fun cW k2=>by
      rcases List.mem_append.1 k2 with h | h
      · obtain ⟨j,bI,r⟩:=px cW h
        exact ⟨j,by simp [bI],r⟩
      · simp only [List.mem_singleton] at h;subst h
        exact ⟨i,by simp,m,⟨o,aR,hm⟩,aA.symm⟩) (by rw [af.di,if_pos rfl])
   have MI:=Cp (os:=fU ops τ) gu (by rw [aX];exact g1)
   rw [show o::fU ops τ=fU ops (i::τ) from by simp [fU,aR]] at MI
   refine ⟨_,⟨(bE A.k).run (c8 hz (bS ops o)),(bE A.x).run (c8 hz (bS ops o)),c⟩::ms,eM,jz,MI,by rw [g2,List.append_assoc];rfl,fun k aA=>?_,fun k=>?_,fun cU dA k aA=>?_,.cons ⟨m,⟨o,aR,hm⟩,aA.symm,ak.symm⟩ g5⟩
   · rw [g3 k aA,af.di,if_neg aA]
   · rw [g4]
     unfold af.set
     simp only [T.Pl]
   · rcases List.mem_cons.1 dA with rfl | dA
     · rfl
     · rw [g6 cU dA k aA,af.di,if_neg aA]
def nS (E:Env):List (V × V)→List MapEntry→Prop
 | [],l=>l=[]
 | p::bc,l=>∃e es,l=e::es∧Rel E p.1 e.key∧Rel E p.2 e.val∧nS E bc es
theorem nS.perm {E:Env} {bc h_:List (V × V)} (h:bc.Perm h_):∀{l:List MapEntry},nS E h_ l→∃ec,nS E bc ec∧ec.Perm l:=by
 induction h with
 | nil=>intro l h;exact ⟨l,h,.refl _⟩
 | cons x _ bf=>
   intro l h
   obtain ⟨e,es,rfl,aa,ae,aF⟩:=h
   obtain ⟨ec,g1,g2⟩:=bf aF
   exact ⟨e::ec,⟨e,ec,rfl,aa,ae,g1⟩,g2.cons e⟩
 | swap x y fX=>
   intro l h
   obtain ⟨e,es,rfl,aa,ae,cU,hH,rfl,aF,bu,cd⟩:=h
   exact ⟨cU::e::hH,⟨cU,_,rfl,aF,bu,e,hH,rfl,aa,ae,cd⟩,List.Perm.swap _ _ _⟩
 | trans _ _ A5 xS=>
   intro l h
   obtain ⟨e6,g1,g2⟩:=xS h
   obtain ⟨ht,g3,g4⟩:=A5 g1
   exact ⟨ht,g3,g4.trans g2⟩
theorem nS.Ol {E:Env}:∀{ms:List b1} {l:List MapEntry},du E ms l→nS E (ms.map fun m=>(m.k,m.v)) l
 | [],l,h=>h
 | m::ms,l,h=>by
   obtain ⟨e,es,rfl,aa,ae,_,bu⟩:=h
   exact ⟨e,es,rfl,aa,ae,nS.Ol bu⟩
theorem i_.Om {E:Env}:∀{ms:List b1} {l:List MapEntry},nS E (ms.map fun m=>(m.k,m.v)) l→i_ E ms l
 | [],l,h=>h
 | m::ms,l,h=>by
   obtain ⟨e,es,rfl,aa,ae,bu⟩:=h
   exact ⟨e,es,rfl,aa,ae,i_.Om bu⟩
theorem a1.forget {au:Fr} {E:Env} {h:af} {w:World} (s:a1 au E h w) {b:aO} {p:hn} {es ms:List b1} {c:Nat} (aG:h.get b=.mp es c) (ah:E b=some p) (e0:(ms.map fun m=>(m.k,m.v)).Perm (es.map fun m=>(m.k,m.v))):
 a1 au E (h.set b (.gx ms)) w:=by
 have ag:=s.at ah
 rw [aG] at ag
 obtain ⟨p',a,fK,cN,a',hm⟩:=ag
 rw [ah] at fK;cases fK
 obtain ⟨l,g1,g2⟩:=nS.perm e0 (nS.Ol hm)
 exact s.set (by rw [aG];rfl) ah cN (Nat.le_refl _) (fun _ _=>rfl) rfl rfl rfl (fun _ _ _ e=>by cases e) ⟨p,a,c,l,ah,cN,a',i_.Om g1,g2⟩
theorem M9:∀(l:List Oper),(∀o ∈ l,o.dst=none)→∀{r cC:br} {h ax:af} {es:List d_},(eH P an ops l).run call r h=.ok es cC ax→∀o ∈ l,∃v H1 cG,(cg P an ops o).run call r H1=.val v cG
 | [],_,_,_,_,_,_,_,o,aR=>by simp at aR
 | x::xs,aX,r,cC,h,ax,es,he,o,aR=>by
   obtain ⟨v,aa,f',aq,av,rfl⟩:=Co he
   rcases List.mem_cons.1 aR with rfl | aR
   · exact ⟨v,h,aa,aq⟩
   · rw [aX x (by simp)] at av
     exact M9 xs (fun bX fJ=>aX bX (by simp [fJ])) av o aR
theorem ada {t:TypeId} {H H1:af} {c:aO} {off:Nat} (h:H.get c=H1.get c):(nv P t).run H (.ptr c off)=(nv P t).run H1 (.ptr c off):=by
 unfold nv
 cases a7 P t with
 | none=>rfl
 | some aM=>
   simp only
   cases aM.agg with
   | true=>simp only [cond_true,lb,V.hQ,h]
   | false=>
     simp only [cond_false]
     cases Nat.beq aM.size 1 with
     | true=>simp only [cond_true,lf,V.hQ,h]
     | false=>rfl
theorem Wo {o:Oper} {t:TypeId} {x:Operand} (aR:o.op=.load t x) (aG:o.guard=none) {r:br} {H1 ab:af} {v:V} (he:(cg P an ops o).run call r H1=.val v ab) {c:aO} {off:Nat} (ak:(bE x).run (c8 r (bS ops o))=.ptr c off)
 (H:af) (jf:H.get c=H1.get c):(cg P an ops o).run call r H=.val v H:=by
 obtain ⟨aa,ae⟩:=iE he
 have key:cg P an ops o=⟨hp none (et P o) (bS ops o)⟩:=by
  unfold cg
  rw [show (ew an o.dst&&iV (bS ops o))=true from by rw [aa,ae];rfl,aG]
  rfl
 rw [key] at he ⊢
 simp only [hp] at he ⊢
 have si:∀H,(et P o).run call (c8 r (bS ops o)) H=aV.of H ((nv P t).run H (.ptr c off)):=by
  intro H
  unfold et
  rw [aR]
  simp only [ak]
 rw [si] at he ⊢
 rw [ada jf]
 exact aV.s9 he H
theorem NM {es:List d_} {h:af} {b:aO}:∀{is:List Nat} {p:Nat},x9 P ops es h b call an is p=true→∀q i o t x,is[q]? =some i→ops[i]? =some o→o.op=.load t x→
 ∃e c off ab,es[p+q]? =some e∧(bE x).run (c8 e.r (bS ops o))=.ptr c off∧c≠b∧o.guard=none∧(cg P an ops o).run call e.r h=.val e.v ab
 | [],_,_,q,i,o,t,x,h,_,_=>by simp at h
 | j::aaz,p,ai,q,i,o,t,x,aC,aR,ks=>by
   simp only [x9] at ai
   cases q with
   | succ q=>
     cases bI:ops[j]? with
     | none=>rw [bI] at ai;cases ai
     | some aiC=>
       rw [bI] at ai
       simp only [Bool.and_eq_true] at ai
       have:=NM ai.2 q i o t x (by simpa using aC) aR ks
       rw [show p + (q+1)=p+1+q from by omega]
       exact this
   | zero=>
     simp only [List.getElem?_cons_zero,Option.some.injEq] at aC
     subst aC
     rw [aR] at ai
     simp only [Bool.and_eq_true] at ai
     have aa:=ai.1
     rw [ks] at aa
     simp only at aa
     rw [Nat.add_zero]
     cases he:es[p]? with
     | none=>rw [he] at aa;cases aa
     | some e=>
       rw [he] at aa
       simp only at aa
       cases ak:(bE x).run (c8 e.r (bS ops o))<;>rw [ak] at aa<;>simp only at aa<;>try (cases aa;done)
       rename_i c off
       simp only [Bool.and_eq_true,Bool.not_eq_true'] at aa
       cases aG:o.guard with
       | some _=>rw [aG] at aa;cases aa.2
       | none=>
         rw [aG] at aa
         simp only at aa
         have ae:=aa.2
         cases aH:(cg P an ops o).run call e.r h with
         | fail=>rw [aH] at ae;cases ae
         | ck _ _=>rw [aH] at ae;cases ae
         | val v ab=>
           rw [aH] at ae
           have bp:=ER ae
           exact ⟨e,c,off,ab,rfl,ak,(fun e=>by rw [e,aO.w0] at aa;cases aa.1),rfl,by rw [aH,bp]⟩
theorem u9 {k:Nat}:∀{l:List Nat} {p:Nat},l.Nodup→l[p]? =some k→l.idxOf k=p
 | [],_,_,h=>by simp at h
 | x::xs,p,aZ,h=>by
   rw [List.nodup_cons] at aZ
   cases p with
   | zero=>
     simp only [List.getElem?_cons_zero,Option.some.injEq] at h
     subst h
     simp
   | succ p=>
     have ak:xs[p]? =some k:=by simpa using h
     have cZ:x≠k:=fun e=>aZ.1 (e ▸ List.mem_of_getElem? ak)
     rw [List.idxOf_cons]
     simp only [beq_iff_eq,cZ,cond_false,show (x == k)=false from by simpa using cZ]
     rw [u9 aZ.2 ak]
def kx (ops:Array Oper) (i:Nat):Bool:=
 match ops[i]? with
 | some o=>jk o
 | none=>false
theorem A_ {o:Oper} {A:tE} (h:jS o=some A):jk o=true∧eb P o.op=true∧fr o=false:=by
 obtain ⟨aR,_,_⟩:=xT h
 refine ⟨by unfold jk;rw [aR],by rw [aR];rfl,by unfold fr;rw [aR]⟩
theorem ac6 {aB:List Nat} {cp c1:Nat} {t:TypeId} (ax:x8 P ops aB cp c1 t=true):∀i o,ops[i]? =some o→∃ct,(dW [] ops.toList)[i]? =some ct∧kB i o=true∧
 (∀k ok,ops[k]? =some ok→∃mk,(dW [] ops.toList)[k]? =some mk∧mz i ct (bS ops o) o.dst k mk ok (Nat.blt (posOf aB k) (posOf aB i))=true)∧
 (posOf aB i<cp→jk o=false∧dB P o=false∧(looks o.op=true→eb P o.op=false→∃t x,o.op=.load t x))∧
 (¬posOf aB i<cp→posOf aB i<c1→∃A,jS o=some A∧A.t=t)∧
 (¬posOf aB i<cp→¬posOf aB i<c1→eb P o.op=false∧looks o.op=false):=by
 unfold x8 at ax
 simp only [Bool.and_eq_true] at ax
 replace ax:=ax.2
 intro i o az
 obtain ⟨ct,aa,ae⟩:=nJ ax i o (by simpa using az)
 simp only [Nat.zero_add,Bool.and_eq_true] at ae
 obtain ⟨⟨aF,bu⟩,cd⟩:=ae
 refine ⟨ct,aa,aF,fun k ok aA=>?_,fun aP=>?_,fun h1 aP=>?_,fun h1 YO=>?_⟩
 · obtain ⟨mk,cb,cB⟩:=nJ bu k ok (by simpa using aA)
   simp only [Nat.zero_add] at cB
   exact ⟨mk,cb,cB⟩
 · rw [show Nat.blt (posOf aB i) cp=true from by rw [Nat.blt_eq];exact aP] at cd
   simp only [cond_true,Bool.and_eq_true,Bool.not_eq_true',Bool.or_eq_true] at cd
   refine ⟨cd.1.1,cd.1.2,fun ai he=>?_⟩
   rcases cd.2 with (h | h) | h
   · rw [ai] at h;cases h
   · rw [he] at h;cases h
   · cases ks:o.op<;>rw [ks] at h<;>simp only at h<;>first
      | (cases h;done)
      | exact ⟨_,_,rfl⟩
 · rw [show Nat.blt (posOf aB i) cp=false from by rw [←Bool.not_eq_true,Nat.blt_eq];exact h1,show Nat.blt (posOf aB i) c1=true from by rw [Nat.blt_eq];exact aP] at cd
   simp only [cond_true,cond_false] at cd
   cases bn:jS o with
   | none=>rw [bn] at cd;cases cd
   | some A=>rw [bn] at cd;exact ⟨A,rfl,Nat.eq_of_beq_eq_true cd⟩
 · rw [show Nat.blt (posOf aB i) cp=false from by rw [←Bool.not_eq_true,Nat.blt_eq];exact h1,show Nat.blt (posOf aB i) c1=false from by rw [←Bool.not_eq_true,Nat.blt_eq];exact YO] at cd
   simp only [cond_false,Bool.and_eq_true,Bool.not_eq_true'] at cd
   exact cd
theorem ac7 {order:List Nat} {es:List d_} {cp:Nat} {b:aO} {hz:br} {A:tE} (h:Bj ops order es cp=some (b,hz,A)):
 ∃e i o,es[cp]? =some e∧order[cp]? =some i∧ops[i]? =some o∧jS o=some A∧e.r=hz:=by
 unfold Bj at h
 cases he:es[cp]? with
 | none=>rw [he] at h;cases h
 | some e=>
   rw [he] at h
   simp only at h
   cases az:order[cp]? with
   | none=>rw [az] at h;cases h
   | some i=>
     rw [az] at h
     simp only at h
     cases aR:ops[i]? with
     | none=>rw [aR] at h;cases h
     | some o=>
       rw [aR] at h
       simp only at h
       cases bn:jS o with
       | none=>rw [bn] at h;cases h
       | some ib=>
         rw [bn] at h
         simp only at h
         cases hm:(bE ib.m).run (c8 e.r (bS ops o))<;>rw [hm] at h<;>simp only at h<;>try (cases h;done)
         simp only [Option.some.injEq,Prod.mk.injEq] at h
         obtain ⟨_,ae,rfl⟩:=h
         exact ⟨e,i,o,rfl,rfl,aR,bn,ae⟩
theorem NX {r:br} {b:aO} {f:Nat→V × V} (ax:∀i m,iZ ops r b i m→f i=(m.k,m.v)):∀{is:List Nat} {ms:List b1},mK (fun i (m:b1)=>∃cW,iZ ops r b i cW∧m.k=cW.k∧m.v=cW.v) is ms→ms.map (fun m=>(m.k,m.v))=is.map f
 | _,_,.nil=>rfl
 | _,_,.cons (a:=i) (b:=m) ba aD=>by
   obtain ⟨cW,aa,ae,aF⟩:=ba
   simp only [List.map_cons,NX ax aD,ax i cW aa,ae,aF]
theorem vv {n:Nat} {order aB:List Nat} (e0:j0 n order aB=true) {p i:Nat} (h:order[p]? =some i):posOf aB i=p∧i<n:=by
 unfold j0 at e0
 simp only [Bool.and_eq_true,Nat.beq_eq] at e0
 obtain ⟨_,ae,_,bu⟩:=e0
 have:=rf bu h
 rw [Nat.zero_add] at this
 refine ⟨by unfold posOf;rw [this];rfl,?_⟩
 have:=(List.getElem?_eq_some_iff.1 this).1
 omega
theorem adP {l:List Nat} {f:Nat→Nat} (h:∀p i,l[p]? =some i→f i=p):l.Nodup:=by
 rw [List.Nodup,List.pairwise_iff_getElem]
 intro i j az bI k0 he
 have aa:=h i _ (List.getElem?_eq_getElem az)
 have ae:=h j _ (List.getElem?_eq_getElem bI)
 rw [he,ae] at aa
 omega
theorem mK.left {α β:Type} {R:α→β→Prop}:∀{e6:List α} {ht:List β},mK R e6 ht→∀x ∈ e6,∃y ∈ ht,R x y
 | _,_,.nil,x,h=>by simp at h
 | _,_,.cons ba aD,x,h=>by
   rcases List.mem_cons.1 h with rfl | h
   · exact ⟨_,by simp,ba⟩
   · obtain ⟨y,aa,ae⟩:=aD.left x h
     exact ⟨y,by simp [aa],ae⟩
theorem aaw {o:Oper} (h:jk o=true):eb P o.op=true∧fr o=false:=by
 unfold jk at h
 unfold fr
 cases aR:o.op<;>rw [aR] at h<;>simp only at h<;>first
  | (cases h;done)
  | exact ⟨rfl,rfl⟩
theorem agI {pre σ post:List Nat} (mf:(pre++(σ++post)).Nodup) (k q:Nat):(pre[q]? =some k→(pre++(σ++post)).idxOf k=q)∧(σ[q]? =some k→(pre++(σ++post)).idxOf k=pre.length+q)∧(post[q]? =some k→(pre++(σ++post)).idxOf k=pre.length+σ.length+q):=by
 refine ⟨fun h=>u9 mf ?_,fun h=>u9 mf ?_,fun h=>u9 mf ?_⟩
 · have:=(List.getElem?_eq_some_iff.1 h).1
   rw [List.getElem?_append_left this]
   exact h
 · have:=(List.getElem?_eq_some_iff.1 h).1
   rw [List.getElem?_append_right (by omega),Nat.add_sub_cancel_left,List.getElem?_append_left this]
   exact h
 · rw [List.getElem?_append_right (by omega),List.getElem?_append_right (by omega)]
   rw [show pre.length+σ.length+q-pre.length-σ.length=q from by omega]
   exact h
theorem ac9 {rd:Option Nat} {D:List Deferred} {au:Fr} {calls:Nat→dc} {es:List d_} {bO:br} {ba:af} {cC:br} {ax:af} {dN order aB:List Nat} (bx:dU P) (cy:∀i,fv P (calls i)) (c9:∀i,fF P (calls i))
 (C:Cert P an ops calls es bO ba cC ax dN order aB ops.size ops.size true) {gA:Env} {Q:Exit→Act→World→Prop}
 (cP:∀ar bg aj,gA.le ar→RegRel0 ar an cC bg→bg.defers=D→a1 au ar ax aj→Q .normal bg aj) {tN:List Nat}
 (dP:∀i k,kx ops i=true→kx ops k=true→posOf aB k<posOf aB i→∀a b,tN=a++i::b→k ∈ a):
 ∀(fuel t:Nat) (listed:Array Bool) (done:List Nat) (a:Act) (w:World),tN=done++Region.linearise.go .any ops fuel t listed []→(∀k,k<ops.size→(listed.getD k false=true↔k ∈ done))→
  (List.range ops.size).countP (fun i=>!listed.getD i false)≤fuel→nL P au an ops es bO ax dN aB gA ops.size D listed a w→wpOpsIn (bU rd) 0 P ops Q (Region.linearise.go .any ops fuel t listed []) a w:=by
 have gQ:∀i o,ops[i]? =some o→kB i o=true:=fun i o h=>by obtain ⟨_,_,ae,_⟩:=C.kU i o h;exact ae
 have fin:∀(listed:Array Bool) (a:Act) (w:World),(∀k,k<ops.size→listed.getD k false=true)→nL P au an ops es bO ax dN aB gA ops.size D listed a w→Q .normal a w:=by
  intro listed a w dm I
  obtain ⟨ar,g1,g2,g3,g4⟩:=KL C (Nat.le_refl _) I fun k aA _=>dm k aA
  exact cP ar a w g1 g2 g3 g4
 intro fuel
 induction fuel with
 | zero=>
   intro t listed done a w mY FT ao I
   have ba:(List.range ops.size).countP (fun i=>!listed.getD i false)=0:=by omega
   rw [List.countP_eq_zero] at ba
   exact fin listed a w (fun k aA=>by simpa using ba k (List.mem_range.2 aA)) I
 | succ fuel bf=>
   intro t listed done a w mY FT ao I
   rw [go_succ] at mY ⊢
   cases aH:tf ops t listed with
   | none=>exact fin listed a w (fun k aA=>vz gQ I.pW (Ps aH) k aA) I
   | some i=>
     rw [aH] at mY
     simp only at mY ⊢
     obtain ⟨i1,i2⟩:=tg I.pW (HT aH)
     have ai:i<listed.size:=by rw [I.pW];exact i1
     have Yy:=count_set I.pW i1 i2
     rw [wpOpsIn_cons]
     refine KU bx cy c9 C I (HT aH) (C.gI i i1).1 (fun _ o k ok cc sy AQ Y1 aP=>?_) (fun bg aj CT=>bf _ _ (done++[i]) bg aj (by rw [List.append_assoc];exact mY) (fun k aA=>?_) (by omega) CT) (fun _ _ _ _ _ _ _ h=>absurd h (Nat.lt_irrefl _))
     · have aA:k<ops.size:=(Array.getElem?_eq_some_iff.1 AQ).1
       exact (FT k aA).2 (dP i k (by unfold kx;rw [cc];exact sy) (by unfold kx;rw [AQ];exact Y1) aP _ _ mY)
     · rw [eN ai,FT k aA,List.mem_append,List.mem_singleton]
       exact Or.comm
noncomputable def EL (ops:Array Oper) (r:br) (b:aO) (i:Nat):V × V:=
 match ops[i]? with
 | some o=>(match qX ops r b o with
   | some m=>(m.k,m.v)
   | none=>(.bad,.bad))
 | none=>(.bad,.bad)
theorem KZ {r:br} {b:aO} {i:Nat} {m:b1} (h:iZ ops r b i m):EL ops r b i=(m.k,m.v):=by
 obtain ⟨o,aa,ae⟩:=h
 unfold EL
 rw [aa]
 simp only [ae]
theorem NY {r:br} {b:aO}:∀{is:List Nat} {ms:List b1},mK (iZ ops r b) is ms→ms.map (fun m=>(m.k,m.v))=is.map (EL ops r b)
 | _,_,.nil=>rfl
 | _,_,.cons ba aD=>by
   simp only [List.map_cons,NY aD,KZ ba]
set_option maxHeartbeats 1000000 in
theorem ac' {rd:Option Nat} {au:Fr} {E:Env} {h:af} {w:World} {id:Nat} (cO:P.follows .mixedOrders=true) (bx:dU P) (cy:fv P call) (c9:fF P call) {r:br} {a:Act} {order aB:List Nat} {cp c1:Nat} (e0:j0 ops.size order aB=true)
 {Q:Exit→Act→World→Prop} (ah:lv au E an (Q .normal) Q (GX P an ops order aB cp c1 (eH P an ops (fU ops order)) call r h)) (k:eA E an r a) (s:a1 au E h w):(Code.region id ops true).wpIn (bU rd) 0 P Q a w:=by
 unfold GX at ah
 cases cA:(eH P an ops (fU ops order)).run call r h with
 | fail=>rw [cA] at ah;exact ah.elim
 | ck _ _ _ _ _=>rw [cA] at ah;exact ah.elim
 | ok es ey a'=>
 rw [cA] at ah
 simp only at ah
 cases lI:Bj ops order es cp with
 | none=>rw [lI] at ah;exact ah.elim
 | some x=>
 obtain ⟨b,hz,A⟩:=x
 rw [lI] at ah
 simp only at ah
 cases hZ:(b0 es a' cp).get b<;>rw [hZ] at ah<;>try (exact False.elim ah)
 rename_i WG l8
 cases WG with
 | cons _ _=>exact False.elim ah
 | nil=>
 simp only at ah
 cases uP:sT ops hz b ((order.drop cp).take (c1-cp)) with
 | none=>rw [uP] at ah;exact ah.elim
 | some ms=>
 rw [uP] at ah
 simp only at ah
 cases ao:(x8 P ops aB cp c1 A.t&&(wy (q0 P A.t) ms&&(x9 P ops es (b0 es a' cp) b call an (order.take cp) 0&&w2 ((bE A.m).run ey) (.map b)))) with
 | false=>rw [ao] at ah;exact ah.elim
 | true=>
 rw [ao] at ah
 simp only [cond_true] at ah
 simp only [Bool.and_eq_true] at ao
 obtain ⟨AR,AI,ek,pF⟩:=ao
 have pF:=ER pF
 obtain ⟨mg,OZ,aiE⟩:=OP e0
 have F5:order.Nodup:=adP fun p i h=>(vv e0 h).1
 obtain ⟨cI,i0,gi,Fv,sw,Zj,w',YL⟩:=ac7 lI
 obtain ⟨ae1,-,-,-⟩:=rv cA
 have hlen:es.length=ops.size:=by rw [ae1,nz,mg]
 have hs:cp<ops.size:=by rw [←mg];exact (List.getElem?_eq_some_iff.1 sw).1
 have kU:=ac6 AR
 generalize om:order.take cp=pre at ek
 generalize sy:(order.drop cp).take (c1-cp)=ins at uP
 generalize Mz:(order.drop cp).drop (c1-cp)=post
 have nj:order=pre++(ins++post):=by rw [←om,←sy,←Mz,List.take_append_drop,List.take_append_drop]
 have uU:pre.length=cp:=by rw [←om,List.length_take];omega
 have ah_:cp<c1:=by
  obtain ⟨sE,_⟩:=vv e0 sw
  rcases Nat.lt_or_ge cp c1 with h | h
  · exact h
  · exfalso
    obtain ⟨_,_,_,_,_,_,f3⟩:=kU i0 gi Zj
    obtain ⟨ak,_⟩:=f3 (by omega) (by omega)
    rw [(A_ (P:=P) w').2.1] at ak
    cases ak
 have YZ:ins.length=c1-cp∨post=[]:=by
  rcases Nat.lt_or_ge (c1-cp) (order.drop cp).length with h | h
  · left;rw [←sy,List.length_take];omega
  · right;rw [←Mz];exact List.drop_eq_nil_of_le h
 have Ds:∀q i,pre[q]? =some i→posOf aB i=q∧i<ops.size∧q<cp:=by
  intro q i h
  have aC:=(List.getElem?_eq_some_iff.1 h).1
  obtain ⟨aa,ae⟩:=vv e0 (p:=q) (i:=i) (by rw [nj,List.getElem?_append_left aC];exact h)
  exact ⟨aa,ae,by omega⟩
 have Dq:∀q i,ins[q]? =some i→posOf aB i=cp+q∧i<ops.size∧cp+q<c1:=by
  intro q i h
  have aC:=(List.getElem?_eq_some_iff.1 h).1
  obtain ⟨aa,ae⟩:=vv e0 (p:=cp+q) (i:=i) (by
   rw [nj,List.getElem?_append_right (by omega),uU,Nat.add_sub_cancel_left,List.getElem?_append_left aC];exact h)
  refine ⟨aa,ae,?_⟩
  have:ins.length≤c1-cp:=by rw [←sy,List.length_take];omega
  omega
 have Dr:∀q i,post[q]? =some i→posOf aB i=cp+ins.length+q∧i<ops.size∧ins.length=c1-cp:=by
  intro q i h
  have ai:ins.length=c1-cp:=by
   rcases YZ with ab | ab
   · exact ab
   · rw [ab] at h;simp at h
  obtain ⟨aa,ae⟩:=vv e0 (p:=cp+ins.length+q) (i:=i) (by
   rw [nj,List.getElem?_append_right (by omega),List.getElem?_append_right (by omega),uU,show cp+ins.length+q-cp-ins.length=q from by omega];exact h)
  exact ⟨aa,ae,ai⟩
 have QH:∀i,i<ops.size→(∃q:Nat,pre[q]? =some i)∨(∃q:Nat,ins[q]? =some i)∨∃q:Nat,post[q]? =some i:=by
  intro i az
  have hm:i ∈ order:=List.mem_of_getElem? (OZ i az).2
  rw [nj,List.mem_append,List.mem_append] at hm
  rcases hm with h | h | h
  · exact .inl (List.mem_iff_getElem?.1 h)
  · exact .inr (.inl (List.mem_iff_getElem?.1 h))
  · exact .inr (.inr (List.mem_iff_getElem?.1 h))
 have HJ:∀i o,i ∈ pre→ops[i]? =some o→jk o=false∧dB P o=false∧(looks o.op=true→eb P o.op=false→∃t x,o.op=.load t x):=by
  intro i o az aR
  obtain ⟨q,aC⟩:=List.mem_iff_getElem?.1 az
  obtain ⟨aa,ae,aF⟩:=Ds q i aC
  obtain ⟨_,_,_,_,f1,_,_⟩:=kU i o aR
  exact f1 (by omega)
 have xU:∀i,i ∈ ins→∃o ib,ops[i]? =some o∧jS o=some ib∧ib.t=A.t:=by
  intro i az
  obtain ⟨q,aC⟩:=List.mem_iff_getElem?.1 az
  obtain ⟨aa,ae,aF⟩:=Dq q i aC
  obtain ⟨_,_,_,_,_,f2,_⟩:=kU i _ (Array.getElem?_eq_getElem ae)
  obtain ⟨ib,g1,g2⟩:=f2 (by omega) (by omega)
  exact ⟨_,ib,Array.getElem?_eq_getElem ae,g1,g2⟩
 have yx:∀i o,i ∈ post→ops[i]? =some o→eb P o.op=false∧looks o.op=false:=by
  intro i o az aR
  obtain ⟨q,aC⟩:=List.mem_iff_getElem?.1 az
  obtain ⟨aa,ae,aF⟩:=Dr q i aC
  obtain ⟨_,_,_,_,_,_,f3⟩:=kU i o aR
  exact f3 (by omega) (by omega)
 have GH:∀i,i<ops.size→(kx ops i=true↔i ∈ ins):=by
  intro i az
  have cc:ops[i]? =some ops[i]:=Array.getElem?_eq_getElem az
  constructor
  · intro h
    unfold kx at h
    rw [cc] at h
    simp only at h
    rcases QH i az with ⟨q,aC⟩ | ⟨q,aC⟩ | ⟨q,aC⟩
    · rw [(HJ i _ (List.mem_of_getElem? aC) cc).1] at h;cases h
    · exact List.mem_of_getElem? aC
    · have:=(yx i _ (List.mem_of_getElem? aC) cc).1
      rw [(aaw (P:=P) h).1] at this
      cases this
  · intro h
    obtain ⟨o,ib,g1,g2,_⟩:=xU i h
    unfold kx
    rw [g1]
    exact (A_ (P:=P) g2).1
 have F6:ins.Nodup:=by
  rw [nj] at F5
  exact (List.nodup_append.1 (List.nodup_append.1 F5).2.1).1
 have xG:=cA
 rw [nj,yl,yl] at xG
 obtain ⟨f',bz,aa,WH,pK,MB,kX⟩:=Ik _ _ xG
 obtain ⟨n1,bZ,ae,ES,jP,Zy,ah6⟩:=Ik _ _ MB
 obtain ⟨e6,-,-,-⟩:=rv pK
 rw [nz,uU] at e6
 obtain ⟨-,bY,bK,-⟩:=rv MB
 have L9:WH[0]? =some cI:=by
  rw [kX,List.getElem?_append_right (by omega),e6,Nat.sub_self] at Fv
  exact Fv
 have ZA:bz=hz:=by
  unfold dG at bK
  rw [L9] at bK
  exact bK.symm.trans YL
 have YT:b0 es a' cp=aa:=by
  unfold b0 at bY ⊢
  rw [Fv]
  rw [L9] at bY
  exact bY
 subst ZA
 rw [YT] at hZ ek
 have pr:∀i ∈ ins,∃o ib m,ops[i]? =some o∧jS o=some ib∧(xZ P ib.t=true∧q0 P ib.t=q0 P A.t)∧qX ops bz b o=some m∧∃v H1 cG,(cg P an ops o).run call bz H1=.val v cG:=by
  intro i az
  obtain ⟨o,ib,g1,g2,g3⟩:=xU i az
  obtain ⟨m,_,bX,g4,g5⟩:=(A' uP).left i az
  rw [g1] at g4;cases g4
  refine ⟨o,ib,m,g1,g2,⟨by rw [g3];unfold x8 at AR;rw [Bool.and_eq_true] at AR;exact AR.1,by rw [g3]⟩,g5,M9 (fU ops ins) (fun cL uR=>?_) jP o ?_⟩
  · obtain ⟨q,aC⟩:=List.mem_iff_getElem?.1 uR
    have qR:q<ins.length:=by rw [←nz (ops:=ops)];exact (List.getElem?_eq_some_iff.1 aC).1
    obtain ⟨Od,oU,xX,sU,_⟩:=xU _ (List.getElem_mem qR)
    have:=lj (List.getElem?_eq_getElem qR) xX
    rw [aC] at this;cases this
    exact (xT sU).2.1
  · obtain ⟨q,aC⟩:=List.mem_iff_getElem?.1 az
    exact List.mem_of_getElem? (lj aC g1)
 have AJ:=JC (A' uP) F6 AI
 obtain ⟨ahO,aiv,ahH,kG,E3,ahT,ahU,Xi,_,ahV⟩:=GJ pr AJ ins [] [] l8 aa (fun i az=>az) (fun i az=>by simp at az) (by simpa using F6) (fun m hm=>by simp at hm) hZ
 rw [jP] at E3
 simp only [nM.ok.injEq] at E3
 obtain ⟨-,Zx,Yc⟩:=E3
 subst Zx Yc
 obtain ⟨FL,Zw⟩:=Po (fU ops post) (fun cL uR=>by
  obtain ⟨q,aC⟩:=List.mem_iff_getElem?.1 uR
  have qR:q<post.length:=by rw [←nz (ops:=ops)];exact (List.getElem?_eq_some_iff.1 aC).1
  obtain ⟨_,Mf,_⟩:=Dr q _ (List.getElem?_eq_getElem qR)
  have:=lj (List.getElem?_eq_getElem qR) (Array.getElem?_eq_getElem Mf)
  rw [aC] at this;cases this
  exact yx _ _ (List.getElem_mem qR) (Array.getElem?_eq_getElem Mf)) Zy
 subst FL
 refine wpIn_region_draw fun t=>?_
 simp only [Region.schedule,cO,Bool.true_or,if_true]
 have gQ:∀i o,ops[i]? =some o→kB i o=true:=fun i o h=>by obtain ⟨_,_,ae,_⟩:=kU i o h;exact ae
 have c7:∀k,¬(Array.replicate ops.size false).getD k false=true:=by
  intro k
  rw [qG,Array.getElem?_replicate]
  split<;>simp
 obtain ⟨s1,s2,ll⟩:=LK (ops:=ops) gQ ops.size t (Array.replicate ops.size false) (by simp) (Nat.le_trans List.countP_le_length (by simp))
 change wpOpsIn (bU rd) 0 P ops Q (Region.linearise.go .any ops ops.size t (Array.replicate ops.size false) []) a {w with drawn:=w.drawn+1}
 generalize mY:Region.linearise.go .any ops ops.size t (Array.replicate ops.size false) []=tN at s1 s2 ll
 generalize GF:tN.filter (kx ops)=σ
 have G_:∀k,k ∈ σ↔k ∈ ins:=by
  intro k
  rw [←GF,List.mem_filter]
  constructor
  · rintro ⟨g1,g2⟩
    exact (GH k (s2 k g1).1).1 g2
  · intro g
    obtain ⟨q,aC⟩:=List.mem_iff_getElem?.1 g
    have aA:=(Dq q k aC).2.1
    refine ⟨?_,(GH k aA).2 g⟩
    rcases ll k aA with h | h
    · exact absurd h (c7 k)
    · exact h
 have Ms:σ.Nodup:=by rw [←GF];exact s1.filter _
 have Ge:σ.Perm ins:=(List.perm_ext_iff_of_nodup Ms F6).2 G_
 have MX:σ.length=ins.length:=Ge.length_eq
 have jO:(pre++(σ++post)).Perm order:=by
  rw [nj]
  exact (Ge.append_right post).append_left pre
 have F7:(pre++(σ++post)).Nodup:=jO.nodup_iff.2 F5
 have xr:(pre++(σ++post)).length=ops.size:=by rw [jO.length_eq,mg]
 have zF:=agI F7
 generalize Zp:(List.range ops.size).map (fun k=>(pre++(σ++post)).idxOf k)=iR
 have uT:∀k,k<ops.size→posOf iR k=(pre++(σ++post)).idxOf k:=by
  intro k aA
  rw [←Zp]
  unfold posOf
  rw [List.getElem?_map,List.getElem?_range aA]
  rfl
 have yq:∀i,i<ops.size→i ∈ pre→posOf iR i=posOf aB i∧posOf aB i<cp:=by
  intro i az hm
  obtain ⟨q,aC⟩:=List.mem_iff_getElem?.1 hm
  obtain ⟨g1,_,g3⟩:=Ds q i aC
  rw [uT i az,(zF i q).1 aC,g1]
  exact ⟨rfl,g3⟩
 have yp:∀i,i<ops.size→i ∈ ins→∃q:Nat,σ[q]? =some i∧posOf iR i=cp+q∧q<ins.length∧cp≤posOf aB i∧posOf aB i<cp+ins.length:=by
  intro i az hm
  obtain ⟨q,aC⟩:=List.mem_iff_getElem?.1 ((G_ i).2 hm)
  obtain ⟨dS,lK⟩:=List.mem_iff_getElem?.1 hm
  obtain ⟨g1,_,g3⟩:=Dq dS i lK
  have:=(List.getElem?_eq_some_iff.1 aC).1
  have:=(List.getElem?_eq_some_iff.1 lK).1
  exact ⟨q,aC,by rw [uT i az,(zF i q).2.1 aC,uU],by omega,by omega,by omega⟩
 have HB:∀i,i<ops.size→i ∈ post→posOf iR i=posOf aB i∧cp+ins.length≤posOf aB i:=by
  intro i az hm
  obtain ⟨q,aC⟩:=List.mem_iff_getElem?.1 hm
  obtain ⟨g1,_,_⟩:=Dr q i aC
  rw [uT i az,(zF i q).2.2 aC,g1,MX,uU]
  exact ⟨rfl,by omega⟩
 have cls:∀i,i<ops.size→i ∈ pre∨i ∈ ins∨i ∈ post:=by
  intro i az
  rcases QH i az with ⟨q,aC⟩ | ⟨q,aC⟩ | ⟨q,aC⟩
  · exact .inl (List.mem_of_getElem? aC)
  · exact .inr (.inl (List.mem_of_getElem? aC))
  · exact .inr (.inr (List.mem_of_getElem? aC))
 obtain ⟨r_,aiw,En,v',LA,Xj,Xk,Xl,Xn,Xm⟩:=GJ pr AJ σ [] [] l8 aa (fun i az=>(G_ i).1 az) (fun i az=>by simp at az) (by simpa using Ms) (fun m hm=>by simp at hm) hZ
 obtain ⟨um,Zz⟩:=Zw v'
 have MF:=Il _ _ pK (Il _ _ LA Zz)
 rw [←yl,←yl] at MF
 obtain ⟨acz,-,-,-⟩:=rv LA
 rw [nz,MX] at acz
 obtain ⟨cm,z2,z3,z4⟩:=rv MF
 rw [nz,xr] at cm
 have O0:∀k,k<ops.size→posOf iR k<ops.size∧(pre++(σ++post))[posOf iR k]? =some k:=by
  intro k aA
  have hm:k ∈ pre++(σ++post):=jO.mem_iff.2 (List.mem_of_getElem? (OZ k aA).2)
  obtain ⟨q,aC⟩:=List.mem_iff_getElem?.1 hm
  have oq:=u9 F7 aC
  rw [uT k aA,oq]
  have:=(List.getElem?_eq_some_iff.1 aC).1
  exact ⟨by omega,aC⟩
 have aex:∀p,p<ops.size→∃i,i<ops.size∧posOf iR i=p:=by
  intro p ah
  have aC:(pre++(σ++post))[p]? =some ((pre++(σ++post))[p]'(by omega)):=List.getElem?_eq_getElem _
  have hm:(pre++(σ++post))[p]'(by omega) ∈ order:=jO.mem_iff.1 (List.getElem_mem _)
  obtain ⟨q,uV⟩:=List.mem_iff_getElem?.1 hm
  have aP:=(vv e0 uV).2
  exact ⟨_,aP,by rw [uT _ aP];exact u9 F7 aC⟩
 have Kq:∀j o,ops[j]? =some o→dB P o=true→j ∈ ins:=by
  intro j o aR kl
  rcases cls j (Array.getElem?_eq_some_iff.1 aR).1 with h | h | h
  · rw [(HJ j o h aR).2.1] at kl;cases kl
  · exact h
  · unfold dB at kl
    rw [(yx j o h aR).1] at kl
    cases kl
 have GI:∀k ok,k ∈ ins→ops[k]? =some ok→ok.dst=none∧jk ok=true:=by
  intro k ok aA bt
  obtain ⟨o,ib,g1,g2,_⟩:=xU k aA
  rw [bt] at g1;cases g1
  exact ⟨(xT g2).2.1,(A_ (P:=P) g2).1⟩
 have SG:∀st,st=ops.size∨(∃k,k<ops.size∧k ∈ ins∧st=posOf iR k)→∀c,b≠c→(b0 (f'++(r_++um)) v' st).get c=aa.get c:=by
  rintro st (rfl | ⟨k,aA,fp,rfl⟩) c ao
  · unfold b0
    rw [List.getElem?_eq_none (by omega)]
    exact Xk c ao
  · obtain ⟨q,_,g2,g3,_⟩:=yp k aA fp
    have xD:q<r_.length:=by omega
    unfold b0
    rw [g2,List.getElem?_append_right (by omega),e6,Nat.add_sub_cancel_left,List.getElem?_append_left xD,List.getElem?_eq_getElem xD]
    exact Xn _ (List.getElem_mem xD) c ao
 have C:Cert P an ops (fun _=>call) (f'++(r_++um)) r h ey v' (gh P iR 0 ops.toList) (pre++(σ++post)) iR ops.size ops.size true:=by
  refine ⟨cm,Nat.le_refl _,Nat.le_refl _,O0,aex,z2,z3,?_,?_,?_,?_,?_,?_,fun h=>absurd h (Nat.lt_irrefl _),fun h=>absurd h (Nat.lt_irrefl _)⟩
  · intro i o aR _
    exact z4 _ o (lj (O0 i (Array.getElem?_eq_some_iff.1 aR).1).2 aR)
  · intro i o cc
    obtain ⟨ct,f1,f2,f3,_⟩:=kU i o cc
    refine ⟨ct,f1,f2,fun _ k ok bt _=>?_⟩
    obtain ⟨mk,f4,f5⟩:=f3 k ok bt
    have az:i<ops.size:=(Array.getElem?_eq_some_iff.1 cc).1
    have aA:k<ops.size:=(Array.getElem?_eq_some_iff.1 bt).1
    refine ⟨mk,f4,?_,fun he kl aP=>?_⟩
    · by_cases fp:k ∈ ins
      · unfold mz
        rw [(GI k ok fp bt).1]
        simp
      · have ag:Nat.blt (posOf iR k) (posOf iR i)=Nat.blt (posOf aB k) (posOf aB i):=by
         rw [Bool.eq_iff_iff,Nat.blt_eq,Nat.blt_eq]
         rcases cls k aA with ao | ao | ao
         · obtain ⟨bH,a2⟩:=yq k aA ao
           rcases cls i az with aX | aX | aX
           · obtain ⟨b7,b_⟩:=yq i az aX;omega
           · obtain ⟨q,_,b_,gN,kM,kN⟩:=yp i az aX;omega
           · obtain ⟨b7,b_⟩:=HB i az aX;omega
         · exact absurd ao fp
         · obtain ⟨bH,a2⟩:=HB k aA ao
           rcases cls i az with aX | aX | aX
           · obtain ⟨b7,b_⟩:=yq i az aX;omega
           · obtain ⟨q,_,b_,gN,kM,kN⟩:=yp i az aX;omega
           · obtain ⟨b7,b_⟩:=HB i az aX;omega
        rw [ag]
        exact f5
    · have fp:=Kq k ok bt kl
      obtain ⟨aiF,_,b_,gN,kM,kN⟩:=yp k aA fp
      rcases cls i az with aX | aX | aX
      · obtain ⟨bH,a2⟩:=yq i az aX;omega
      · exact .inr ⟨rfl,(GI i o aX cc).2,(GI k ok fp bt).2⟩
      · rw [(yx i o aX cc).1] at he;cases he
  · have:=Bh (P:=P) (aB:=iR) (l:=ops.toList) (i:=0)
    simpa using this
  · intro j o g1 g2
    have:=vd (P:=P) (aB:=iR) (i:=0) (j:=j) (l:=ops.toList) (o:=o) (by simpa using g1) g2
    simpa using this
  · intro st cn
    rcases q1 cn with h | ⟨j,o,g1,g2,g3⟩
    · exact .inl (.inl (by simpa using h))
    · exact .inr ⟨j,o,by simpa using g1,g2,by simpa using g3⟩
  · intro j o oi ai he _
    have bI:j<ops.size:=(Array.getElem?_eq_some_iff.1 oi).1
    have lF:j ∈ pre:=by
     rcases cls j bI with aX | aX | aX
     · exact aX
     · obtain ⟨bX,ib,g1,g2,_⟩:=xU j aX
       rw [oi] at g1;cases g1
       rw [(A_ (P:=P) g2).2.1] at he;cases he
     · rw [(yx j o aX oi).2] at ai;cases ai
    obtain ⟨tn,QN,ks⟩:=(HJ j o lF oi).2.2 ai he
    obtain ⟨q,aC⟩:=List.mem_iff_getElem?.1 lF
    obtain ⟨bH,_,a3⟩:=Ds q j aC
    obtain ⟨e,c,off,ab,dH,fW,y3,y4,IG⟩:=NM ek q j o tn QN aC oi ks
    have YI:(f'++(r_++um))[posOf iR j]? =some e:=by
     rw [(yq j bI lF).1,bH,List.getElem?_append_left (by omega)]
     rw [Nat.zero_add,kX,List.getElem?_append_left (by omega)] at dH
     exact dH
    refine ⟨e,YI,fun st cn _=>⟨call,_,⟨cy,c9⟩,Wo ks y4 IG fW _ (SG st ?_ c fun h=>y3 h.symm)⟩⟩
    rcases q1 cn with h | ⟨bl,bX,g1,g2,g3⟩
    · exact .inl (by simpa using h)
    · have AV:ops[bl]? =some bX:=by simpa using g1
      exact .inr ⟨bl,(Array.getElem?_eq_some_iff.1 AV).1,Kq bl bX AV g2,by simpa using g3⟩
 have jI:∀(ar:Env) (bg:Act),E.le ar→bg.defers=a.defers→∀(bo:br),T.get .bad ea bo=T.get .bad ea r→jy ar (T.get .bad ea bo) bg.defers:=fun ar bg he aX bo pJ=>by rw [pJ,aX];exact k.defers.mono he
 have AL:T.get .bad ea ey=T.get .bad ea r:=by
  have:=C.EE ops.size (Nat.le_refl _)
  have F8:(f'++(r_++um))[ops.size]? =none:=List.getElem?_eq_none (by omega)
  unfold dG at this
  rw [F8] at this
  exact this
 have il:Holds au au (f'++(r_++um)) v' iR (ic ops (f'++(r_++um)) v' iR (Array.replicate ops.size false) 0):=
  ⟨rfl,fun _ _=>rfl,fun k aA=>(by obtain ⟨_,_,_,_,ba⟩:=aA;omega),fun k bl aA=>(by obtain ⟨_,_,_,_,ba⟩:=aA;omega)⟩
 obtain ⟨fC,dx,g1,g2,g3,g4,g5,g6⟩:=C.advance ops.size 0 (by omega) (fun k o _ _ _=>c7 k) au il (E:=E) (w:={w with drawn:=w.drawn}) (by rw [C.ba];exact s.same rfl rfl rfl rfl)
 rw [←mY]
 refine ac9 (au:=au) bx (fun _=>cy) (fun _=>c9) C (gA:=E) (D:=a.defers) (tN:=tN) (fun ar bg aj aq av aK bD=>?_) (fun i k az aA aP bg bC Yl=>?_) ops.size t _ [] a _ (by rw [mY];rfl) (fun k _=>⟨fun h=>absurd h (c7 k),fun h=>by simp at h⟩) (Nat.le_trans List.countP_le_length (by simp)) ?_
 · refine ah ar bg aj aq ⟨av,jI ar bg aq aK ey AL⟩ ?_
   have hc:=de av A.m
   rw [pF] at hc
   simp only [Rel] at hc
   obtain ⟨p,Ya,_⟩:=hc
   rw [Xi,←Xl]
   refine bD.forget Xj Ya ?_
   rw [List.nil_append,NY (A' uP),NX (fun i m h=>KZ h) Xm]
   exact Ge.symm.map _
 · have lE:i<ops.size:=by
    unfold kx at az
    cases aR:ops[i]? with
    | none=>rw [aR] at az;cases az
    | some o=>exact (Array.getElem?_eq_some_iff.1 aR).1
   have Mg:k<ops.size:=by
    unfold kx at aA
    cases aR:ops[k]? with
    | none=>rw [aR] at aA;cases aA
    | some o=>exact (Array.getElem?_eq_some_iff.1 aR).1
   have fp:=(GH k Mg).1 aA
   have MW:σ=bg.filter (kx ops)++i::bC.filter (kx ops):=by rw [←GF,Yl,List.filter_append,List.filter_cons_of_pos az]
   have h4:posOf iR i=cp + (bg.filter (kx ops)).length:=by
    rw [uT i lE,(zF i (bg.filter (kx ops)).length).2.1 (by rw [MW,List.getElem?_append_right (Nat.le_refl _),Nat.sub_self];rfl),uU]
   obtain ⟨q,aC,AX,_⟩:=yp k Mg fp
   have qR:q < (bg.filter (kx ops)).length:=by omega
   rw [MW,List.getElem?_append_left qR] at aC
   exact (List.mem_filter.1 (List.mem_of_getElem? aC)).1
 · refine ⟨by simp,k.size,rfl,fun bl aA=>absurd aA (c7 bl),fun bl o e aA=>absurd aA (c7 bl),E,fC,dx,Env.le.refl E,g1,g3,fun bl o aa ae=>⟨fun h=>absurd h (c7 bl),fun h=>by have:=g4 bl o aa ae (Nat.zero_le _);omega⟩,
    fun bl o _ _ h=>absurd h (c7 bl),g5,?_,fun t aD=>.inr ⟨fun bl o aA=>absurd aA (c7 bl),k.aE t aD⟩⟩
   exact g6.same rfl rfl rfl rfl
theorem Wr {rd:Option Nat} {au:Fr} {E:Env} {h:af} {w:World} {id:Nat} (cO:P.follows .mixedOrders=true) (bx:dU P) (cy:fv P call) (c9:fF P call) {r:br} {a:Act}
 {Q:Exit→Act→World→Prop} (ah:lv au E an (Q .normal) Q ((EB P an ops).run call r h)) (k:eA E an r a) (s:a1 au E h w):(Code.region id ops true).wpIn (bU rd) 0 P Q a w:=by
 unfold EB at ah
 generalize yn P ops=order at ah
 generalize BQ order 0 ops.toList=aB at ah
 unfold KS at ah
 cases ax:(j0 ops.size order aB&&uc P ops aB) with
 | false=>
   rw [ax] at ah
   simp only [cond_false] at ah
   cases hK:(j0 ops.size order aB&&yK P ops order aB) with
   | false=>
     rw [hK] at ah
     simp only [cond_false] at ah
     cases FC:j0 ops.size order aB with
     | false=>rw [FC] at ah;exact ah.elim
     | true=>
       rw [FC] at ah
       simp only [cond_true] at ah
       exact ac' cO bx cy c9 FC ah k s
   | true=>
     rw [hK] at ah
     simp only [cond_true] at ah
     simp only [Bool.and_eq_true] at hK
     exact Ws cO bx cy c9 hK.1 hK.2 ah k s
 | true=>
   rw [ax] at ah
   simp only [cond_true] at ah
   simp only [Bool.and_eq_true] at ax
   obtain ⟨e0,fQ⟩:=ax
   unfold j0 at e0
   simp only [Bool.and_eq_true,Nat.beq_eq] at e0
   obtain ⟨mg,uR,xv,xw⟩:=e0
   have gI:∀k,k<ops.size→posOf aB k<ops.size∧order[posOf aB k]? =some k:=by
    intro k aA
    have aG:aB[k]? =some (posOf aB k):=by
     unfold posOf
     rw [List.getElem?_eq_getElem (by omega)]
     rfl
    have:=rf xv aG
    rw [Nat.zero_add] at this
    exact ⟨by have:=(List.getElem?_eq_some_iff.1 this).1;omega,this⟩
   have jt:∀p,p<ops.size→∃i,i<ops.size∧posOf aB i=p:=by
    intro p ah
    have aG:order[p]? =some (order[p]'(by omega)):=List.getElem?_eq_getElem (by omega)
    have:=rf xw aG
    rw [Nat.zero_add] at this
    refine ⟨order[p]'(by omega),by have:=(List.getElem?_eq_some_iff.1 this).1;omega,?_⟩
    unfold posOf
    rw [this]
    rfl
   have Ij:∀j o,ops[j]? =some o→dB P o=true→posOf aB j ∈ gh P aB 0 ops.toList:=fun j o aa ae=>by simpa using vd (aB:=aB) (i:=0) (j:=j) (l:=ops.toList) (by simpa using aa) ae
   have agh:ops.size ∈ gh P aB 0 ops.toList:=by simpa using Bh (P:=P) (aB:=aB) (l:=ops.toList) (i:=0)
   have Qc:∀N M,∀s ∈ gh P aB 0 ops.toList,(s=ops.size∨(s=N∧M=N))∨∃k o,ops[k]? =some o∧dB P o=true∧s=posOf aB k:=fun N M s aQ=>by
    rcases q1 aQ with h | ⟨j,o,aa,ae,aF⟩
    · exact .inl (.inl (by simpa using h))
    · exact .inr ⟨j,o,by simpa using aa,ae,by simpa using aF⟩
   have Ma:∀i o,ops[i]? =some o→∃ct,(dW [] ops.toList)[i]? =some ct∧kB i o=true∧(posOf aB i<ops.size→
    ∀k ok,ops[k]? =some ok→posOf aB k<ops.size→∃mk,(dW [] ops.toList)[k]? =some mk∧mz i ct (bS ops o) o.dst k mk ok (Nat.blt (posOf aB k) (posOf aB i))=true∧(eb P o.op=true→dB P ok=true→posOf aB k<posOf aB i→eT ct k=true∨(false=true∧jk o=true∧jk ok=true))):=by
    intro i o az
    obtain ⟨ct,g1,g2,g3⟩:=KR fQ i o az
    exact ⟨ct,g1,g2,fun _ k ok aA _=>by
     obtain ⟨mk,dH,fW,y3⟩:=g3 k ok aA
     exact ⟨mk,dH,fW,fun a b c=>.inl (y3 a b c)⟩⟩
   have main:∀(q:yZ),
    (∀es me N,es.length=N→N≤ops.size→(∀i o,ops[i]? =some o→posOf aB i<N→∃e,es[posOf aB i]? =some e∧(cg P an ops o).run call e.r e.h=.val e.v (b0 es me (posOf aB i+1)))→
      (N<ops.size→∃i0 gi,ops[i0]? =some gi∧posOf aB i0=N∧dB P gi=true)→q.run call es me=true→∀j o,ops[j]? =some o→looks o.op=true→eb P o.op=false→posOf aB j<N→∃e,es[posOf aB j]? =some e∧∀s ∈ gh P aB 0 ops.toList,
      pY P (dW [] ops.toList) ops.toList aB j (((dW [] ops.toList)[j]?).getD 0) s=true→∃ab,(cg P an ops o).run call e.r (b0 es me s)=.val e.v ab)→
    lv au E an (Q .normal) Q (z' ops order aB (eH P an ops (fU ops order)) q call r h)→(Code.region id ops true).wpIn (bU rd) 0 P Q a w:=by
    intro q qL cA
    unfold z' at cA
    cases cn:(eH P an ops (fU ops order)).run call r h with
    | fail=>rw [cn] at cA;exact cA.elim
    | ok es ey a'=>
      rw [cn] at cA
      simp only at cA
      cases aC:q.run call es a' with
      | false=>rw [aC] at cA;exact cA.elim
      | true=>
        rw [aC] at cA
        simp only [cond_true] at cA
        obtain ⟨aq,av,aK,bD⟩:=rv cn
        have hlen:es.length=ops.size:=by rw [aq,nz,mg]
        have gu:∀i o,ops[i]? =some o→posOf aB i<ops.size→∃e,es[posOf aB i]? =some e∧(cg P an ops o).run call e.r e.h=.val e.v (b0 es a' (posOf aB i+1))∧dG es ey (posOf aB i+1)=(eJ o.dst).run e.r e.v:=
         fun i o aR _=>bD _ o (lj (gI i (Array.getElem?_eq_some_iff.1 aR).1).2 aR)
        have C:Cert P an ops (fun _=>call) es r h ey a' (gh P aB 0 ops.toList) order aB ops.size ops.size false:=
         ⟨hlen,Nat.le_refl _,Nat.le_refl _,gI,jt,av,aK,gu,Ma,agh,Ij,Qc _ _,
           fun j o aa ae aF bu=>by
            obtain ⟨e,g1,g2⟩:=qL es a' _ hlen (Nat.le_refl _) (fun i o aR az=>by obtain ⟨e,cm,z2,_⟩:=gu i o aR az;exact ⟨e,cm,z2⟩) (fun h=>by omega) aC j o aa ae aF bu
            exact ⟨e,g1,fun s aQ hm=>by obtain ⟨ab,g3⟩:=g2 s aQ hm;exact ⟨_,ab,⟨cy,c9⟩,g3⟩⟩,
           fun h=>absurd h (Nat.lt_irrefl _),fun h=>absurd h (Nat.lt_irrefl _)⟩
        exact ED cO bx cy c9 k s C (fun _=>cA) (fun _ _ _ _ _ _ _ h=>absurd h (Nat.lt_irrefl _)) (fun h=>absurd h (Nat.lt_irrefl _))
    | ck es ey a' v ab=>
      rw [cn] at cA
      simp only at cA
      cases aC:(HC ops order aB es.length&&q.run call es a') with
      | false=>rw [aC] at cA;exact cA.elim
      | true=>
        rw [aC] at cA
        simp only [cond_true] at cA
        simp only [Bool.and_eq_true] at aC
        obtain ⟨sG,aC⟩:=aC
        obtain ⟨av,aK,bD,gi,dr,fi,jv⟩:=Qd cn
        have aP:es.length<ops.size:=by
         have:=(List.getElem?_eq_some_iff.1 dr).1
         rw [nz,mg] at this
         exact this
        obtain ⟨i0,sw,h4⟩:=jt es.length aP
        have cc:ops[i0]? =some ops[i0]:=Array.getElem?_eq_getElem sw
        have nj:=(gI i0 sw).2
        rw [h4] at nj
        have Zi:gi=ops[i0]:=by
         have:=lj nj cc
         rw [dr] at this
         cases this
         rfl
        subst Zi
        unfold HC at sG
        rw [nj] at sG
        simp only at sG
        obtain ⟨m0,Ml,_⟩:=nJ sG i0 ops[i0] (by simp)
        have MU:∀k ok,ops[k]? =some ok→∃mk,(dW [] ops.toList)[k]? =some mk∧(es.length<posOf aB k→eT mk i0=true)∧(fr ok=true→posOf aB k<es.length→eT m0 k=true):=by
         intro k ok aA
         obtain ⟨mk,cm,z2⟩:=nJ sG k ok (by simpa using aA)
         simp only [Nat.zero_add,Bool.and_eq_true] at z2
         refine ⟨mk,cm,fun aG=>?_,fun bn ai=>?_⟩
         · have:=z2.1
           rw [show Nat.blt es.length (posOf aB k)=true from by rw [Nat.blt_eq];exact aG] at this
           exact this
         · have:=z2.2
           rw [bn,show Nat.blt (posOf aB k) es.length=true from by rw [Nat.blt_eq];exact ai,Ml] at this
           exact this
        have uG:dB P ops[i0]=true:=by
         obtain ⟨bs,bN⟩:=NZ (P:=P) fi
         unfold dB;rw [bs,bN];rfl
        have gu:∀i o,ops[i]? =some o→posOf aB i<es.length→∃e,es[posOf aB i]? =some e∧(cg P an ops o).run call e.r e.h=.val e.v (b0 es a' (posOf aB i+1))∧dG es ey (posOf aB i+1)=(eJ o.dst).run e.r e.v:=
         fun i o aR ai=>bD _ o ai (lj (gI i (Array.getElem?_eq_some_iff.1 aR).1).2 aR)
        have C:Cert P an ops (fun _=>call) es r h ey a' (gh P aB 0 ops.toList) order aB es.length ops.size false:=
         ⟨rfl,Nat.le_of_lt aP,Nat.le_of_lt aP,gI,jt,av,aK,gu,Ma,by rw [←h4];exact Ij i0 _ cc uG,Ij,Qc _ _,
           fun j o aa ae aF bu=>by
            obtain ⟨e,g1,g2⟩:=qL es a' _ rfl (Nat.le_of_lt aP) (fun i o aR az=>by obtain ⟨e,cm,z2,_⟩:=gu i o aR az;exact ⟨e,cm,z2⟩) (fun _=>⟨i0,_,cc,h4,uG⟩) aC j o aa ae aF bu
            exact ⟨e,g1,fun s aQ hm=>by obtain ⟨ab,g3⟩:=g2 s aQ hm;exact ⟨_,ab,⟨cy,c9⟩,g3⟩⟩,
           fun h=>absurd h (Nat.lt_irrefl _),fun _ _=>⟨i0,_,m0,cc,h4,fi,Ml,fun k ok mk aA aG F2=>by
            obtain ⟨mk',cm,z2,_⟩:=MU k ok aA
            rw [F2] at cm;cases cm
            exact z2 aG,fun k ok aA bn ai=>by
            obtain ⟨mk',cm,_,z3⟩:=MU k ok aA
            exact z3 bn ai,v,ab,jv⟩⟩
        refine ED cO bx cy c9 k s C (fun h=>absurd h (by omega)) (fun ar bg aj x v1 aa g1 _ _ g3 g4 g5 g6=>?_) (fun h=>absurd h (Nat.lt_irrefl _))
        obtain ⟨i1,c2,cm,z2,z3⟩:=g3
        have:i1=i0:=C.tb (Array.getElem?_eq_some_iff.1 cm).1 sw (by rw [z2,h4])
        subst this
        rw [cc] at cm;cases cm
        rw [jv] at z3;cases z3
        exact cA ar bg aj x g1 g4 g5 g6
   cases ai:o4 P ops.toList with
   | false=>
     rw [ai] at ah
     have none:∀(l:List Oper),o4 P l=false→∀(j:Nat) (o:Oper),l[j]? =some o→eb P o.op=false:=by
      intro l
      induction l with
      | nil=>intro _ j o h;simp at h
      | cons x l bf=>
        intro h j o aR
        simp only [o4,Bool.or_eq_false_iff] at h
        cases j with
        | zero=>simp only [List.getElem?_cons_zero,Option.some.injEq] at aR;subst aR;exact h.1
        | succ j=>exact bf h.2 j o (by simpa using aR)
     refine main _ (fun es me N hlen hle gu MJ _ j o aR ek aC xm=>?_) ah
     have Fg:N=ops.size:=by
      rcases Nat.lt_or_ge N ops.size with aP | h1
      · obtain ⟨i0,gi,cm,z2,z3⟩:=MJ aP
        have:=none _ ai i0 gi (by simpa using cm)
        unfold dB at z3
        rw [this] at z3;cases z3
      · omega
     obtain ⟨e,b2,cq⟩:=gu j o aR xm
     refine ⟨e,b2,fun s aQ _=>?_⟩
     have hM:s=ops.size:=by
      rcases q1 aQ with h | ⟨Bb,bX,aa,ae,aF⟩
      · simpa using h
      · have:=none _ ai Bb bX aa
        unfold dB at ae
        rw [this] at ae
        cases ae
     have flat:∀d,d≤ops.size→b0 es me d=b0 es me 0:=by
      intro d
      induction d with
      | zero=>intro _;rfl
      | succ d bf=>
        intro aX
        obtain ⟨i,sx,lE⟩:=jt d (by omega)
        have cc:ops[i]? =some ops[i]:=Array.getElem?_eq_getElem sx
        obtain ⟨Wv,bY,bK⟩:=gu i ops[i] cc (by omega)
        rw [lE] at bY bK
        have cZ:eb P ops[i].op=false:=none _ ai i _ (by simp)
        rw [(r5 cZ bK).1,←bf (by omega)]
        simp [b0,bY]
     have:e.h=b0 es me s:=by rw [hM,flat ops.size (Nat.le_refl _),←flat (posOf aB j) (by omega)];simp [b0,b2]
     rw [←this]
     exact ⟨_,cq⟩
   | true=>
     rw [ai] at ah
     refine main _ (fun es me N hlen hle gu MJ oq j o aR ek aC xm=>?_) ah
     obtain ⟨e,b2,_⟩:=gu j o aR xm
     have:=Dp oq j o (by simpa using aR) ek aC e (by simpa using b2)
     exact ⟨e,b2,by simpa using this⟩
end
end Go.Proofs.YtkehcalakofigaaGreatDoor.aS
namespace Go.Proofs.YtkehcalakofigaaGreatDoor.aS
variable [Lay]
open Go Go.RowKit
def toExit:c6→Exit
 | .normal=>.normal
 | .exit id=>.exit id
 | .ret=>.ret
def RB (C:Ctx):Prop:=
 ∀f p args h v ab,C.HO f=some p→p.run args h=.val v ab→(∃fn,C.P.funcs[f]? =some fn∧fn.body.isSome=true)∧∀(au:Fr) E w xs,a8 E args xs→a1 au E h w→
  Calls C.P f xs.toArray w fun e aj=>∃ar x,e=.returned x∧E.le ar∧Rel ar v x∧a1 au ar ab aj
def Q7 (C:Ctx):Prop:=
 ∀f p args h v ab,C.ext f=some p→p.run args h=.val v ab→∀(au:Fr) E w xs,a8 E args xs→a1 au E h w→
  ∃ar x aj,(callFunc f xs.toArray).run C.P w=.ok (.value x) aj∧E.le ar∧Rel ar v x∧a1 au ar ab aj
def mN (C:Ctx):Prop:=RB C∧Q7 C
theorem oa {P:Program} {rd:Option Nat} (m:Machine):m.fenced P (bU rd):=fenced_wide P m
def Cu (rd:Option Nat) (P:Program) (c:Code) (Q:Exit→Act→World→Prop) (a:Act) (w:World):Prop:=
 match c with
 | .loop x=>∀(b:Frame) (k:List Item) (cs:List Frame),b.roundOf=rd→∃e bg aj,Q e bg aj∧ArrivesIn (Machine.fenced P (bU rd)) P (lone (b.atR a (.code x::.inLoop x::k)) cs w) b k cs e bg aj
 | c=>c.wpIn (bU rd) 0 P Q a w
theorem Cu.wp {rd:Option Nat} {P:Program} {c:Code} {Q:Exit→Act→World→Prop} {a:Act} {w:World} (h:Cu rd P c Q a w):c.wpIn (bU rd) 0 P Q a w:=by
 cases c with
 | loop x=>
   intro b k cs jQ _ _
   obtain ⟨e,bg,aj,q,r⟩:=h b k cs jQ
   exact ⟨e,bg,aj,q,.of_steps (.one (oa _) stepR_loop) r⟩
 | _=>exact h
def tK (au:Fr) (E:Env) (an:Nat) (Q:Exit→Act→World→Prop):j5→Prop
 | .ok e r h=>∀ar bg aj,E.le ar→eA ar an r bg→a1 au ar h aj→Q (toExit e) bg aj
 | .ck v r h=>∀ar bg aj x,E.le ar→eA ar an r bg→Rel ar v x→a1 au ar h aj→Q (.panic (nA x)) bg aj
 | .fail=>False
theorem tK.up {au:Fr} {E ar:Env} (h:E.le ar) {an:Nat} {Q:Exit→Act→World→Prop} {x:j5} (k:tK au E an Q x):tK au ar an Q x:=by
 cases x with
 | ok e r a'=>exact fun bQ a w ae=>k bQ a w (h.trans ae)
 | ck v r a'=>exact fun bQ a w x ae=>k bQ a w x (h.trans ae)
 | fail=>exact k
def IT (P:Program) (an:Nat) (c:Code) (run:br→af→j5):Prop:=
 ∀(rd:Option Nat) (au:Fr) r h,(rd=none∨noMark c=true)→∀E a w,eA E an r a→a1 au E h w→∀Q:Exit→Act→World→Prop,tK au E an Q (run r h)→Cu rd P c Q a w
def qp (P:Program) (ex:gB):Prop:=∀an c,IT P an c (ex an c)
def th (tmps:Array Value):ResultVar→Sem Value
 | .tmp t=>pure (tmps.getD t undef)
 | .cell b t=>do loadVar t (←asAddr (tmps.getD b undef))
theorem HW {P:Program} {au:Fr} {E:Env} {an:Nat} {r:br} {h:af} {a:Act} {w:World} (k:RegRel0 E an r a) (s:a1 au E h w):∀{l:List ResultVar} {ad:List V},(iS P an l).run r h=some ad→
 ∃xs,a8 E ad xs∧(l.mapM (th a.tmps)).run P w=.ok xs w
 | [],ad,he=>by
   simp only [iS,Option.some.injEq] at he
   subst he
   exact ⟨[],rfl,rfl⟩
 | .tmp t::l,ad,he=>by
   simp only [iS] at he
   cases ao:(Nat.ble t top&&Nat.blt t an) with
   | false=>rw [ao] at he;cases he
   | true=>
     rw [ao] at he
     simp only [cond_true] at he
     simp only [Bool.and_eq_true,Nat.ble_eq] at ao
     cases aH:(iS P an l).run r h with
     | none=>rw [aH] at he;cases he
     | some us=>
       rw [aH] at he
       simp only [Option.some.injEq] at he
       subst he
       obtain ⟨xs,aa,ae⟩:=HW k s aH
       refine ⟨_::xs,by simp only [a8];exact ⟨_,_,rfl,k.aE t ao.1,aa⟩,?_⟩
       rw [List.mapM_cons,Sem.run_bind]
       simp only [th,Sem.run_pure,Result.andThen_ok,Sem.run_bind,ae]
 | .cell b t::l,ad,he=>by
   simp only [iS] at he
   cases ao:(Nat.ble b top&&Nat.blt b an) with
   | false=>rw [ao] at he;cases he
   | true=>
     rw [ao] at he
     simp only [cond_true] at he
     simp only [Bool.and_eq_true,Nat.ble_eq] at ao
     cases bp:(nv P t).run h (T.get .bad (ay b) r) with
     | none=>rw [bp] at he;cases he
     | some v=>
       rw [bp] at he
       simp only at he
       cases aH:(iS P an l).run r h with
       | none=>rw [aH] at he;cases he
       | some us=>
         rw [aH] at he
         simp only [Option.some.injEq] at he
         subst he
         obtain ⟨xs,aa,ae⟩:=HW k s aH
         obtain ⟨Y,_,cx,A,lC,eB⟩:=NL (P:=P) s (k.aE b ao.1) bp
         refine ⟨Y::xs,by simp only [a8];exact ⟨_,_,rfl,cx,aa⟩,?_⟩
         rw [List.mapM_cons,Sem.run_bind]
         simp only [th,lC,asAddr,Sem.run_bind,Sem.run_pure,Result.andThen_ok,eB,ae]
theorem JJ:∀(args:List V) (i:Nat) (t:br) (j:Nat),i+args.length≤top+1→j≤top→
 T.get .bad (ay j) (kL i args t)=if i≤j∧j<i+args.length then (args[j-i]?).getD .bad else T.get .bad (ay j) t
 | [],i,t,j,_,_=>by
   have:¬(i≤j∧j<i):=by omega
   simp [kL,this]
 | v::ad,i,t,j,h,bI=>by
   simp only [List.length_cons] at h ⊢
   rw [kL,JJ ad _ _ _ (by omega) bI]
   by_cases aa:i+1≤j∧j<i+1+ad.length
   · rw [if_pos aa,if_pos (by omega)]
     have:j-i=(j - (i+1))+1:=by omega
     rw [this,List.getElem?_cons_succ]
   · rw [if_neg aa,T.gF]
     by_cases ae:j=i
     · subst ae;rw [if_pos rfl,if_pos (by omega)];simp
     · rw [if_neg (fun e=>ae (fB e).symm),if_neg (by omega)]
theorem ad9 {E:Env} {ad:List V} {xs:List Value} (h:a8 E ad xs) (fn:Func) (a:Act) (P:Program) (w:World)
 (aH:(fn.results.toList.mapM (th a.tmps)).run P w=.ok xs w):∃x,(results fn a.tmps).run P w=.ok x w∧Rel E (oneOf ad) x:=by
 have lI:(fn.results.mapM (th a.tmps)).run P w=.ok xs.toArray w:=by
  rw [Array.mapM_eq_mapM_toList,Sem.run_map,aH]
  rfl
 have Fu:results fn a.tmps=(do
  let ad ←fn.results.mapM (th a.tmps)
  pure (if h:ad.size=1 then ad[0] else .tuple ad)):=by
  unfold results
  have:(fun x=>match x with
   | ResultVar.tmp t=>(pure (a.tmps.getD t undef):Sem Value)
   | ResultVar.cell b t=>do loadVar t (←asAddr (a.tmps.getD b undef)))=th a.tmps:=by
   funext x
   cases x<;>rfl
  rw [←this]
  rfl
 have uW:(results fn a.tmps).run P w=.ok (if h:xs.toArray.size=1 then xs.toArray[0] else .tuple xs.toArray) w:=by
  rw [Fu,Sem.run_bind,lI]
  rfl
 refine ⟨_,uW,?_⟩
 match ad,h with
 | [],h=>
   simp only [a8] at h
   subst h
   simp only [oneOf,Rel]
   exact ⟨#[],rfl,rfl⟩
 | [v],h=>
   simp only [a8] at h
   obtain ⟨y,b',rfl,a6,rfl⟩:=h
   simpa [oneOf] using a6
 | v::u::ad,h=>
   have ai:=h.length
   have cZ:¬xs.toArray.size=1:=by simp at ai ⊢;omega
   rw [dif_neg cZ]
   simp only [oneOf,Rel]
   exact ⟨_,rfl,by simpa using h⟩
section
variable {C:Ctx}
theorem JI:∀(args:List V) (i:Nat) (t:br),i+args.length≤top+1→T.get .bad ea (kL i args t)=T.get .bad ea t
 | [],_,_,_=>rfl
 | v::ad,i,t,h=>by
   simp only [List.length_cons] at h
   simp only [kL]
   rw [JI ad (i+1) _ (by omega),T.gF,if_neg (s' (by omega))]
theorem K2 {E:Env} {an:Nat} {args:List V} {xs:List Value} (ai:a8 E args xs) (jG:args.length≤an) (fI:an≤top):
 eA E an (kL 0 args .e) {tmps:=xs.toArray++Array.replicate (an-xs.toArray.size) undef,defers:=[]}:=by
 have hlen:=ai.length
 refine ⟨⟨by simp;omega,fun t aD=>?_⟩,?_⟩
 · rw [JJ _ _ _ _ (by omega) aD]
   by_cases aP:t<args.length
   · rw [if_pos (by omega),Nat.sub_zero,List.getElem?_eq_getElem aP]
     obtain ⟨y,a6,cx⟩:=ai.get t args[t] (List.getElem?_eq_getElem aP)
     simp only [Option.getD_some]
     have:(xs.toArray++Array.replicate (an-xs.toArray.size) undef).getD t undef=y:=by
      rw [Array.getD_eq_getD_getElem?,Array.getElem?_append_left (by simp;omega)]
      simp [a6]
     rw [this];exact cx
   · rw [if_neg (by omega)]
     simp [Rel]
 · rw [JI _ _ _ (by omega)]
   simp [jy]
def i' (E:Env) (u:Option V) (m:FrameMode):Prop:=
 match u with
 | none=>m=.returning
 | some v=>∃x,Rel E v x∧m=.panicking (nA x)
theorem i'.mono {E ar:Env} (h:E.le ar) {u:Option V} {m:FrameMode} (k:i' E u m):i' ar u m:=by
 cases u with
 | none=>exact k
 | some v=>obtain ⟨x,aa,ae⟩:=k;exact ⟨x,Rel.mono h _ _ aa,ae⟩
theorem i'.settle {E:Env} {u:Option V} {m:FrameMode} (k:i' E u m):settle m=m:=by
 cases u with
 | none=>simp only [i'] at k;subst k;rfl
 | some v=>obtain ⟨x,aa,rfl⟩:=k;rfl
theorem i'.run {E:Env} {u:Option V} {m:FrameMode} (k:i' E u m):m≠.run:=by
 cases u with
 | none=>simp only [i'] at k;subst k;simp
 | some v=>obtain ⟨x,aa,rfl⟩:=k;simp
def za (P:Program) (iD:rK):Prop:=
 ∀f args u h fD ab,iD f args u h=.go fD ab→(∃fn,P.funcs[f]? =some fn∧fn.body.isSome=true)∧
  ∀(au:Fr) E w xs m,a8 E args xs→i' E u m→a1 au E h w→CallsDIn (bU none) 0 P f xs.toArray m w fun e cW aj=>∃ar x,e=.returned x∧E.le ar∧i' ar fD (settle cW)∧a1 au ar ab aj
theorem a1.gone {au:Fr} {E:Env} {h:af} {w aj:World} (s:a1 au E h w) {b:aO} {p:hn} (fq:(h.get b).own=true) (ah:E b=some p) (cN:au.w.heap.size≤p.a_)
 (aP:w.heap.size≤aj.heap.size) (k4:∀j,j≠p.a_→aj.heap[j]? =w.heap[j]?) (mh:aj.os=w.os) (aD:aj.tape=w.tape) (aR:aj.output=w.output):a1 au E (h.set b .dead) aj:=
 s.set fq ah cN aP k4 mh aD aR (fun _ _ _ e=>by cases e) trivial
theorem GW {P:Program} {iD:rK} (bx:dU P) (jI:za P iD) {au:Fr} {fn:Func} {tmps:Array Value} {R:Ending→World→Prop}:∀(ad:List V) (ds:List Deferred) (E:Env) (u:Option V) (h:af) (w:World) (m:FrameMode) (fD:Option V) (ab:af),
 k' iD ad u h=.go fD ab→lo E ad ds→i' E u m→a1 au E h w→(∀ar cW aj,E.le ar→i' ar fD cW→a1 au ar ab aj→LeavesInM (bU none) 0 P fn tmps R [] cW aj)→LeavesInM (bU none) 0 P fn tmps R ds m w
 | [],ds,E,u,h,w,m,fD,ab,he,aX,hu,s,cx=>by
   simp only [k',qu.go.injEq] at he
   obtain ⟨rfl,rfl⟩:=he
   simp only [lo] at aX
   subst aX
   exact cx E m w (Env.le.refl E) hu s
 | v::ad,ds,E,u,h,w,m,fD,ab,he,aX,hu,s,cx=>by
   obtain ⟨d,ph,rfl,sk,sl⟩:=aX
   cases v with
   | func f args=>
     simp only [k'] at he
     cases ao:iD f args u h with
     | fail=>rw [ao] at he;cases he
     | go tr aa=>
       rw [ao] at he
       simp only at he
       obtain ⟨ax,cap,aD,ai⟩:=sk
       obtain ⟨⟨W_,gG,ag⟩,cy⟩:=jI _ _ _ _ _ _ ao
       refine ⟨hu.run,.inr ⟨fun h=>by simp at h,_,cap,f,d.args++cap,aD,?_,fun _ _=>trivial,?_⟩⟩
       · rw [aD]
         simp only [invoke]
         exact rp bx gG ag _ w
       · have e:d.args++cap=(d.args.toList++cap.toList).toArray:=by apply Array.ext';simp
         rw [e]
         refine CallsDIn.mono (cy au E w _ m ai hu s) fun e m1 bY aC=>?_
         obtain ⟨e9,x,rfl,aq,av,aK⟩:=aC
         exact GW bx jI ad ph e9 tr aa bY (settle m1) fD ab he (sl.mono aq) av aK fun bQ m2 bK b2 cq dR=>cx bQ m2 bK (aq.trans b2) cq dR
   | ptr b off=>
     simp only [k'] at he
     cases aG:h.get b<;>rw [aG] at he<;>simp only at he<;>try (cases he;done)
     obtain ⟨p,ah,YC⟩:=sk
     have ag:=s.at ah
     rw [aG] at ag
     obtain ⟨p',fK,cN,a'⟩:=ag
     rw [ah] at fK;cases fK
     have jN:=(Array.getElem?_eq_some_iff.1 a').1
     let bY:World:={w with heap:=w.heap.setIfInBounds p.a_ (.deferred none)}
     have ZO:(Instr.takeDeferred p.a_).run P w=.ok [] bY:=by
      have dQ:(getObj p.a_).run P w=.ok (.deferred (some [])) w:=by simp only [getObj,Sem.run,a']
      have pN:(setObj p.a_ (.deferred none)).run P w=.ok () bY:=by simp only [setObj,Sem.run,a'];rfl
      simp only [Instr.takeDeferred,Sem.run_bind,dQ,Result.andThen_ok,pN,Sem.run_pure]
     have s1:a1 au E (h.set b .dead) bY:=s.gone (by rw [aG];rfl) ah cN (by simp [bY]) (fun j bI=>by simp only [bY,Array.getElem?_setIfInBounds];rw [if_neg (fun e=>bI e.symm)]) rfl rfl rfl
     refine ⟨hu.run,.inl ⟨p.a_,bY,by rw [YC],ZO,?_⟩⟩
     exact GW bx jI ad ph E u _ bY m fD ab he sl hu s1 cx
   | _=>simp [k'] at he
theorem H2 {P:Program} {au:Fr} {E:Env} {fn:Func} {r:br} {h:af} {a:Act} {w:World} (k:RegRel0 E fn.ntmps r a) (s:a1 au E h w) {ad:List V} (bp:(iS P fn.ntmps fn.results.toList).run r h=some ad):
 ∃x,(results fn a.tmps).run P w=.ok x w∧Rel E (oneOf ad) x:=by
 obtain ⟨b',b2,cq⟩:=HW (P:=P) k s bp
 exact ad9 b2 fn a P w cq
section
variable {C:Ctx}
theorem Vs (ex:gB):fF C.P (pe C ex):=by
 intro f args h v ab he
 trivial
def o1 (au:Fr) (E:Env) (R:Ending→World→Prop):aV→Prop
 | .val v ab=>∀ar x aj,E.le ar→Rel ar v x→a1 au ar ab aj→R (.returned x) aj
 | .ck v ab=>∀ar x aj,E.le ar→Rel ar v x→a1 au ar ab aj→R (.panicked (nA x)) aj
 | .fail=>False
theorem o1.up {au:Fr} {E ar:Env} (h:E.le ar) {R:Ending→World→Prop} {x:aV} (k:o1 au E R x):o1 au ar R x:=by
 cases x with
 | val v a'=>exact fun bQ a w ae=>k bQ a w (h.trans ae)
 | ck v a'=>exact fun bQ a w ae=>k bQ a w (h.trans ae)
 | fail=>exact k
theorem EU (bx:dU C.P) {iD:rK} (jI:za C.P iD) {au:Fr} {fn:Func} {E:Env} {r:br} {u:Option V} {h:af} {a:Act} {w:World} {m:FrameMode} {R:Ending→World→Prop}
 (k:eA E fn.ntmps r a) (hu:i' E u m) (s:a1 au E h w)
 (ah:o1 au E R (finish (iS C.P fn.ntmps fn.results.toList) r (k' iD (T.get .bad ea r).list u h))):LeavesInM (bU none) 0 C.P fn a.tmps R a.defers m w:=by
 cases ai:k' iD (T.get .bad ea r).list u h with
 | fail=>rw [ai] at ah;exact ah.elim
 | go fD ab=>
   rw [ai] at ah
   refine GW bx jI _ a.defers E u h w m fD ab ai k.defers.list hu s fun ar cW aj aq av aK=>?_
   cases fD with
   | some v=>
     obtain ⟨x,ak,rfl⟩:=av
     exact ah ar x aj aq ak aK
   | none=>
     simp only [i'] at av
     subst av
     simp only [finish] at ah
     cases bp:(iS C.P fn.ntmps fn.results.toList).run r ab with
     | none=>rw [bp] at ah;exact ah.elim
     | some ad=>
       rw [bp] at ah
       obtain ⟨x,b2,cq⟩:=H2 (P:=C.P) (k.mono aq).toRegRel0 aK bp
       exact ⟨x,b2,ah ar x aj aq cq aK⟩
theorem KH {res:tM} {u fD:Option V} {x:j5} {ab:af} (he:z8 res u x=.go fD ab):∃e r ad,x=.ok e r ab∧(e=.normal∨e=.ret)∧T.get .bad ea r=.bad∧res.run r ab=some ad∧fD=u:=by
 unfold z8 at he
 cases x with
 | fail=>cases he
 | ck _ _ _=>cases he
 | ok e r h=>
   have main:(bif (T.get .bad ea r).GK then (match res.run r h with
    | some _=>qu.go u h
    | none=>.fail) else .fail)=.go fD ab→(e=.normal∨e=.ret)→∃cU bo ad,j5.ok e r h=.ok cU bo ab∧(cU=.normal∨cU=.ret)∧T.get .bad ea bo=.bad∧res.run bo ab=some ad∧fD=u:=by
    intro he gr
    cases ag:(T.get .bad ea r).GK with
    | false=>rw [ag] at he;cases he
    | true=>
      rw [ag] at he
      simp only [cond_true] at he
      have Yt:T.get .bad ea r=.bad:=by
       cases aG:T.get .bad ea r<;>rw [aG] at ag<;>first
        | rfl
        | cases ag
      cases bp:res.run r h with
      | none=>rw [bp] at he;cases he
      | some ad=>
        rw [bp] at he
        simp only [qu.go.injEq] at he
        obtain ⟨rfl,rfl⟩:=he
        exact ⟨e,r,ad,rfl,gr,Yt,bp,rfl⟩
   cases e with
   | normal=>exact main he (.inl rfl)
   | ret=>exact main he (.inr rfl)
   | exit id=>cases he
theorem afd {c:Code} {s:C'} (h:B6 c=some s):∃id c2 cL args types,c=.seq (.region id #[c2,cL] false) s.rest∧c2.dst=some s.d∧c2.op=.call ⟨.builtin .recover,args,types⟩∧c2.guard=none∧cL.dst=some s.e∧cL.op=.assign s.x∧cL.guard=none:=by
 unfold B6 at h
 split at h
 case h_2=>cases h
 rename_i id ops rest
 split at h
 case h_2=>cases h
 rename_i c2 cL ai
 split at h
 case h_2=>cases h
 rename_i d args types e x aa ae aF bu cd fx
 cases h
 have Zk:ops=#[c2,cL]:=by apply Array.ext';simp [ai]
 subst Zk
 exact ⟨id,c2,cL,_,_,rfl,aa,ae,aF,bu,cd,fx⟩
theorem Wj (cO:C.P.follows .mixedOrders=true) (bx:dU C.P) {ex:gB} (hex:qp C.P ex):za C.P (z7 C.P ex):=by
 intro f args u h fD ab he
 unfold z7 at he
 cases ax:C.P.funcs[f]? with
 | none=>rw [ax] at he;cases he
 | some fn=>
   rw [ax] at he
   simp only at he
   cases ag:fn.body with
   | none=>rw [ag] at he;cases he
   | some c=>
     rw [ag] at he
     simp only at he
     refine ⟨⟨fn,rfl,by rw [ag];rfl⟩,fun au E w xs m ai hu s=>?_⟩
     cases fI:Nat.ble fn.ntmps top with
     | false=>rw [fI] at he;cases he
     | true=>
       rw [fI] at he
       simp only [cond_true] at he
       rw [Nat.ble_eq] at fI
       unfold KI at he
       cases jG:Nat.ble args.length fn.ntmps with
       | false=>rw [jG] at he;cases he
       | true=>
         rw [jG] at he
         simp only [cond_true] at he
         rw [Nat.ble_eq] at jG
         have k:=K2 ai jG fI
         cases aH:B6 c with
         | none=>
           rw [aH] at he
           simp only at he
           obtain ⟨e,r,ad,ak,gr,px,bp,rfl⟩:=KH he
           refine CallsDIn.mono (callsDIn_of_wp (R:=fun e aj=>∃ar x,e=.returned x∧E.le ar∧a1 au ar ab aj) ax ag trivial ?_) fun cU cW aj aC=>?_
           · refine (hex fn.ntmps c none au _ h (.inl rfl) E _ w k s _ ?_).wp
             rw [ak]
             intro ar bg aj aq av aK
             have aX:bg.defers=[]:=by have:=av.defers;rw [px] at this;exact this
             obtain ⟨x,b2,cq⟩:=H2 (P:=C.P) av.toRegRel0 aK bp
             rcases gr with rfl | rfl<;>exact ⟨aX,x,b2,ar,x,rfl,aq,aK⟩
           · obtain ⟨rfl,ar,x,rfl,aq,aK⟩:=aC
             exact ⟨ar,x,rfl,aq,by rw [hu.settle];exact hu.mono aq,aK⟩
         | some cF=>
           rw [aH] at he
           simp only at he
           cases fQ:(ew fn.ntmps (some cF.d)&&ew fn.ntmps (some cF.e)) with
           | false=>rw [fQ] at he;cases he
           | true=>
             rw [fQ] at he
             simp only [cond_true] at he
             simp only [Bool.and_eq_true] at fQ
             obtain ⟨e,r,ad,ak,gr,px,bp,rfl⟩:=KH he
             obtain ⟨id,c2,cL,yA,rt,rfl,g1,g2,g3,g4,g5,g6⟩:=afd aH
             refine callsDIn_of_wpSIn ax ag trivial fun r4 cs Ft=>wpSIn_seq (wpSIn_region ?_)
             obtain ⟨X,cQ,ua,gb,cW,k2,ZH⟩:∃X,Rel E (u.getD .nilIface) X∧∃ua,(match recoverD (r4::cs) with
              | some (v,Wa)=>v=X∧Wa=ua
              | none=>X=.nilIface∧ua=r4::cs)∧∃cW,ua={r4 with mode:=cW}::cs∧settle cW=.returning:=by
              cases u with
              | none=>
                simp only [i'] at hu
                subst hu
                refine ⟨.nilIface,rfl,r4::cs,?_,.returning,?_,rfl⟩
                · simp only [recoverD,Ft];exact ⟨trivial,trivial⟩
                · rw [←Ft]
              | some v=>
                obtain ⟨x,ak,rfl⟩:=hu
                refine ⟨x,ak,{r4 with mode:=.panicking [{v:=x,recovered:=true}]}::cs,?_,.panicking [{v:=x,recovered:=true}],rfl,rfl⟩
                simp only [recoverD,Ft];exact ⟨trivial,trivial⟩
             have cb:=k.put fQ.1 cQ
             have cB:=cb.put fQ.2 (de cb.toRegRel0 cF.x)
             rw [←g1] at cB
             rw [←g4] at cB
             have uX:=(hex fn.ntmps cF.rest none au _ h (.inl rfl) E _ w cB s (fun cU bg aj=>bodyPostS C.P fn r4 cs (fun e cW aj=>∃ar x,e=.returned x∧E.le ar∧i' ar none (settle cW)∧a1 au ar ab aj) cU bg ua aj) (by
              have:Pv cF u (kL 0 args .e)=(eJ cL.dst).run ((eJ c2.dst).run (kL 0 args .e) (u.getD .nilIface)) ((bE cF.x).run ((eJ c2.dst).run (kL 0 args .e) (u.getD .nilIface))):=by rw [g1,g4];rfl
              rw [←this,ak]
              intro ar bg aj aq av aK
              have aX:bg.defers=[]:=by have:=av.defers;rw [px] at this;exact this
              obtain ⟨x,b2,cq⟩:=H2 (P:=C.P) av.toRegRel0 aK bp
              rcases gr with rfl | rfl<;>exact ⟨aX,cW,k2,x,b2,ar,x,rfl,aq,ZH,aK⟩)).wp
             have MR:=wpSIn_of_wpIn (F:=bU none) rfl uX
             have nn:∀y,Region.wanted c2 y=true:=fun y=>by simp [Region.wanted,g3]
             have qS:∀y,Region.wanted cL y=true:=fun y=>by simp [Region.wanted,g6]
             have ZE:∀(ρ:Operand→Value),(execOp ρ c2).run C.P w=.ok .recover w:=fun ρ=>by
              obtain ⟨dst,op,type,pos,after,guard⟩:=c2
              simp only at g2
              subst g2
              rfl
             have xG:∀(ρ:Operand→Value),(execOp ρ cL).run C.P w=.ok (.value (ρ cF.x)) w:=fun ρ=>by
              obtain ⟨dst,op,type,pos,after,guard⟩:=cL
              simp only at g5
              subst g5
              rfl
             have b5:(#[c2,cL]:Array Oper).size=2:=rfl
             rw [b5]
             simp only [List.range_succ,List.range_zero,List.nil_append,List.cons_append,wpOpsSIn]
             have cI:(#[c2,cL]:Array Oper)[0]? =some c2:=rfl
             have aN:(#[c2,cL]:Array Oper)[1]? =some cL:=rfl
             rw [cI]
             simp only [nn,if_true,ZE]
             refine ⟨fun _ _=>trivial,?_⟩
             cases MD:recoverD (r4::cs) with
             | none=>
               rw [MD] at gb
               obtain ⟨Yk,nb⟩:=gb
               subst Yk nb
               simp only [aN,qS,if_true,xG]
               exact ⟨fun _ _=>trivial,MR⟩
             | some Iy=>
               obtain ⟨v,ahM⟩:=Iy
               rw [MD] at gb
               obtain ⟨rfl,rfl⟩:=gb
               simp only [aN,qS,if_true,xG]
               exact ⟨fun _ _=>trivial,MR⟩
end
end
end Go.Proofs.YtkehcalakofigaaGreatDoor.aS
namespace Go.Proofs.YtkehcalakofigaaGreatDoor.aS
variable [Lay]
open Go Go.RowKit
theorem Qa:∀(xs:List V) (x:V),Cn (xs++[x])=some (xs,x)
 | [],x=>rfl
 | [y],x=>rfl
 | y::z::xs,x=>by
   have:=Qa (z::xs) x
   simp only [List.cons_append] at this ⊢
   simp only [Cn,this]
theorem RegRel0.putAt {E:Env} {an:Nat} {r:br} {t:Array Value} {ds:List Deferred} (k:RegRel0 E an r ⟨t,ds⟩) {d:Nat} (aX:d<an) (aD:d≤top) {v:V} {x:Value} (bp:Rel E v x):
 RegRel0 E an (T.put .bad v (ay d) r) ⟨t.setIfInBounds d x,ds⟩:=by
 refine ⟨by simp only [Array.size_setIfInBounds];exact k.size,fun j bI=>?_⟩
 rw [T.gF]
 have b5:=k.size
 simp only at b5
 by_cases h:d=j
 · subst h
   rw [if_pos rfl]
   simp [Array.getD_eq_getD_getElem?,b5,aX,bp]
 · rw [if_neg (fun e=>h (fB e))]
   have:=k.aE j bI
   simpa [Array.getD_eq_getD_getElem?,Array.getElem?_setIfInBounds,h] using this
theorem Pg {E:Env} {an:Nat} {ds:List Deferred}:∀(bc:List Nat) (ad:List V) (xs:List Value) (r:br) (t:Array Value),mB an bc=true→a8 E ad xs→RegRel0 E an r ⟨t,ds⟩→
 RegRel0 E an (p3 bc ad r) ⟨(bc.zip xs).foldl (fun t (p:Nat × Value)=>t.setIfInBounds p.1 p.2) t,ds⟩
 | [],ad,xs,r,t,_,_,k=>by cases ad<;>exact k
 | p::bc,[],xs,r,t,_,ai,k=>by simp only [a8] at ai;subst ai;exact k
 | p::bc,v::ad,xs,r,t,ah,ai,k=>by
   obtain ⟨y,b',rfl,a6,ai⟩:=ai
   simp only [mB,List.all_cons,Bool.and_eq_true,Nat.blt_eq,Nat.ble_eq] at ah
   simp only [p3,List.zip_cons_cons,List.foldl_cons]
   exact Pg bc ad b' _ _ ah.2 ai (k.putAt ah.1.1 ah.1.2 a6)
theorem Ph {E:Env} {an:Nat} {ds:List Deferred} {bc:Array Nat} {ad:List V} {xs:List Value} {r:br} {t:Array Value} (ah:mB an bc.toList=true) (ai:a8 E ad xs) (k:RegRel0 E an r ⟨t,ds⟩):
 RegRel0 E an (p3 bc.toList ad r) ⟨(bc.zip xs.toArray).foldl (fun t (p:Nat × Value)=>t.setIfInBounds p.1 p.2) t,ds⟩:=by
 rw [←Array.foldl_toList,Array.toList_zip]
 exact Pg bc.toList ad xs r t ah ai k
theorem RegRel0.SC {E:Env} {an:Nat} {r:br} {a:Act} (k:RegRel0 E an r a) (v:V):RegRel0 E an (T.put .bad v ea r) a:=
 ⟨k.size,fun t aD=>by rw [T.gF,if_neg (fun e=>s' aD e.symm)];exact k.aE t aD⟩
section
variable {C:Ctx}
theorem Xa (bx:dU C.P) (cO:C.P.follows .mixedOrders=true) {ex:gB} (hex:qp C.P ex) {f:FuncId} {args:List V} {h:af} {au:Fr} {E:Env} {w:World} {xs:List Value} (ai:a8 E args xs) (s:a1 au E h w) {R:Ending→World→Prop}
 (ah:o1 au E R ((EY C.P f).run ex args h)):(∃fn,C.P.funcs[f]? =some fn∧fn.body.isSome=true)∧Calls C.P f xs.toArray w R:=by
 unfold EY at ah
 cases ax:C.P.funcs[f]? with
 | none=>rw [ax] at ah;exact ah.elim
 | some fn=>
   rw [ax] at ah
   simp only at ah
   cases ag:fn.body with
   | none=>rw [ag] at ah;exact ah.elim
   | some c=>
     rw [ag] at ah
     simp only at ah
     refine ⟨⟨fn,rfl,by rw [ag];rfl⟩,?_⟩
     cases fI:Nat.ble fn.ntmps top with
     | false=>rw [fI] at ah;exact ah.elim
     | true=>
       rw [fI] at ah
       simp only [cond_true] at ah
       rw [Nat.ble_eq] at fI
       unfold Lo at ah
       cases jG:Nat.ble args.length fn.ntmps with
       | false=>rw [jG] at ah;exact ah.elim
       | true=>
         rw [jG] at ah
         simp only [cond_true] at ah
         rw [Nat.ble_eq] at jG
         have k:=K2 ai jG fI
         have jI:=Wj (C:=C) cO bx hex
         refine qA.1 (callsIn_of_wp_marks (F:=bU none) (n:=0) ax ag trivial ?_)
         refine (hex fn.ntmps c none au _ h (.inl rfl) E _ w k s _ ?_).wp
         cases aH:ex fn.ntmps c (kL 0 args .e) h with
         | fail=>rw [aH] at ah;exact ah
         | ck v r aa=>
           rw [aH] at ah
           intro ar bg aj x aq av aK bD
           exact EU (u:=some v) bx jI av ⟨x,aK,rfl⟩ bD (o1.up aq ah)
         | ok e r aa=>
           rw [aH] at ah
           intro ar bg aj aq av aK
           have main:o1 au E R (finish (iS C.P fn.ntmps fn.results.toList) r (k' (z7 C.P ex) (T.get .bad ea r).list none aa))→LeavesInM (bU none) 0 C.P fn bg.tmps R bg.defers .returning aj:=by
            intro ah
            exact EU (u:=none) bx jI av rfl aK (o1.up aq ah)
           cases e with
           | normal=>exact main ah
           | ret=>exact main ah
           | exit id=>exact ah.elim
theorem Au (bx:dU C.P) (cO:C.P.follows .mixedOrders=true) (fy:mN C) {ex:gB} (hex:qp C.P ex) {f:FuncId} {args:List V} {h:af} {au:Fr} {E:Env} {w:World} {xs:List Value} (ai:a8 E args xs) (s:a1 au E h w) {R:Ending→World→Prop}
 (ah:o1 au E R ((uv C f).run ex args h)):(∃fn,C.P.funcs[f]? =some fn∧fn.body.isSome=true)∧Calls C.P f xs.toArray w R:=by
 unfold uv at ah
 cases aC:C.HO f with
 | none=>rw [aC] at ah;exact Xa bx cO hex ai s ah
 | some p=>
   rw [aC] at ah
   simp only at ah
   cases aH:p.run args h with
   | fail=>rw [aH] at ah;exact ah.elim
   | ck _ _=>rw [aH] at ah;exact ah.elim
   | val v ab=>
     rw [aH] at ah
     obtain ⟨aa,ae⟩:=fy.1 f p args h v ab aC aH
     refine ⟨aa,(ae au E w xs ai s).mono fun e aj aC=>?_⟩
     obtain ⟨ar,x,rfl,aq,av,aK⟩:=aC
     exact ah ar x aj aq av aK
theorem a1.loop {P:Program} {au:Fr} {E:Env} {h:af} {w:World} (s:a1 au E h w) {b:aO} {l ec:lu} {p:hn} {o bX:Loop} (aG:h.get b=.cY l) (ah:E b=some p) (cN:au.w.heap.size≤p.a_) (a':w.heap[p.a_]? =some (.loop o)) (aH:rR E ec bX):
 (setObj p.a_ (.loop bX)).run P w=.ok () {w with heap:=w.heap.setIfInBounds p.a_ (.loop bX)}∧a1 au E (h.set b (.cY ec)) {w with heap:=w.heap.setIfInBounds p.a_ (.loop bX)}:=by
 have jN:=(Array.getElem?_eq_some_iff.1 a').1
 refine ⟨by simp only [setObj,Sem.run,a'],s.set (p:=p) (by rw [aG];rfl) ah cN (by simp) (fun j bI=>?_) rfl rfl rfl (fun _ _ _ e=>by cases e) ?_⟩
 · simp only [Array.getElem?_setIfInBounds]
   rw [if_neg (fun e=>bI e.symm)]
 · exact ⟨p,bX,ah,cN,by simp [jN],aH⟩
theorem run_getLoop {P:Program} {r:Nat} {w:World} {o:Loop} (a':w.heap[r]? =some (.loop o)):(Instr.getLoop r).run P w=.ok o w:=by
 have:(getObj r).run P w=.ok (.loop o) w:=by simp only [getObj,Sem.run,a']
 simp only [Instr.getLoop,Sem.run_bind,this,Result.andThen_ok,Sem.run_pure]
theorem PG {au:Fr} {E:Env} {h ab:af} {w:World} {b:aO} {p:hn} {e:c6} {v:V} {P:Program} {R:Ending→World→Prop} {a:Act} (s:a1 au E h w) (ah:E b=some p) (he:ti b e h=.val v ab)
 (cx:∀x aj,Rel E v x→a1 au E ab aj→R (.returned x) aj):roundPost P p.a_ R (toExit e) a w:=by
 unfold ti at he
 have ag:=s.at ah
 cases aG:h.get b<;>rw [aG] at he ag<;>simp only at he<;>try (cases he;done)
 rename_i l
 obtain ⟨p',o,fK,cN,a',aH⟩:=ag
 rw [ah] at fK;cases fK
 have su:=run_getLoop (P:=P) a'
 obtain ⟨bz,bZ,b6,eX,dv,dZ,fj,dE⟩:=aH
 cases e with
 | normal=>
   simp only [aV.val.injEq] at he
   obtain ⟨rfl,rfl⟩:=he
   obtain ⟨aa,ae⟩:=s.loop (P:=P) (ec:=⟨0,none,l.d,l.an,l.r,l.bc,l.assign,l.body⟩) (bX:={o with state:=.ready,pending:=none}) aG ah cN a' ⟨rfl,rfl,b6,eX,dv,dZ,fj,dE⟩
   refine ⟨.bool true,_,?_,cx _ _ rfl ae⟩
   simp only [Instr.endRound,Sem.run_bind,su,Result.andThen_ok,Option.isNone_none,if_true,aa,Sem.run_pure]
 | ret=>
   simp only [aV.val.injEq] at he
   obtain ⟨rfl,rfl⟩:=he
   obtain ⟨aa,ae⟩:=s.loop (P:=P) (ec:=⟨2,some .ret,l.d,l.an,l.r,l.bc,l.assign,l.body⟩) (bX:={o with state:=.done,pending:=some .ret}) aG ah cN a' ⟨rfl,rfl,b6,eX,dv,dZ,fj,dE⟩
   refine ⟨.bool false,_,?_,cx _ _ rfl ae⟩
   simp only [Instr.endRound,Sem.run_bind,su,Result.andThen_ok,Option.isNone_some,Bool.false_eq_true,if_false,aa,Sem.run_pure]
 | exit id=>
   simp only [aV.val.injEq] at he
   obtain ⟨rfl,rfl⟩:=he
   obtain ⟨aa,ae⟩:=s.loop (P:=P) (ec:=⟨2,some (.exit id),l.d,l.an,l.r,l.bc,l.assign,l.body⟩) (bX:={o with state:=.done,pending:=some (.exit id)}) aG ah cN a' ⟨rfl,rfl,b6,eX,dv,dZ,fj,dE⟩
   refine ⟨.bool false,_,?_,cx _ _ rfl ae⟩
   simp only [Instr.endRound,Sem.run_bind,su,Result.andThen_ok,Option.isNone_some,Bool.false_eq_true,if_false,aa,Sem.run_pure]
theorem afq {P:Program} {ex:gB} (hex:qp P ex) {au:Fr} {E:Env} {h ab:af} {w:World} {args:List V} {xs:List Value} {b:aO} {p:hn} {v:V} (he:yD ex args b h=.val v ab) (ai:a8 E args xs) (s:a1 au E h w) (ah:E b=some p):
 ∃f tmps assign body,(Instr.yield p.a_ xs.toArray).run P w=.ok (.round p.a_ f tmps assign body) w∧
  RoundIn (bU none) 0 P p.a_ f tmps assign body w fun e aj=>∃ar x,e=.returned x∧E.le ar∧Rel ar v x∧a1 au ar ab aj:=by
 unfold yD at he
 have ag:=s.at ah
 cases aG:h.get b<;>rw [aG] at he ag<;>simp only at he<;>try (cases he;done)
 rename_i l
 obtain ⟨p',o,fK,cN,a',aH⟩:=ag
 rw [ah] at fK;cases fK
 obtain ⟨bz,bZ,b6,eX,dv,dZ,fj,dE⟩:=aH
 obtain ⟨ao,he⟩:=jb he
 simp only [Bool.and_eq_true,Nat.beq_eq] at ao
 obtain ⟨bs,bN,c3,g'⟩:=ao
 have hlen:=ai.length
 have Gf:o.params.size=xs.length:=by rw [←Array.length_toList,b6,hlen,bs]
 refine ⟨o.fn,(o.params.zip xs.toArray).foldl (fun tmps (t,a)=>tmps.setIfInBounds t a) o.tmps,o.assign,o.body,?_,?_⟩
 · simp only [Instr.yield,Sem.run_bind,run_getLoop a',Result.andThen_ok]
   rw [if_neg (by simp [Gf])]
   rfl
 · rw [eX,dv]
   refine roundIn_of_wpIn (F:=bU none) trivial ?_
   have oy:RegRel0 E l.an l.r ⟨o.tmps,[]⟩:=⟨dZ,fj⟩
   rw [←b6] at bN he
   have cb:=(Ph bN ai oy).SC .bad
   have k:eA E l.an (T.put .bad .bad ea (p3 o.params.toList args l.r)) ⟨(o.params.zip xs.toArray).foldl (fun t (p:Nat × Value)=>t.setIfInBounds p.1 p.2) o.tmps,[]⟩:=⟨cb,by rw [T.gF,if_pos rfl];simp [jy]⟩
   have Z2:=hex l.an l.assign (some p.a_) au _ h (.inr c3) E _ w k s (Exit.then (fun o9 qk=>∃yR,(Instr.beginRound p.a_).run P qk=.ok () yR∧
    l.body.wpIn (bU (some p.a_)) 0 P (roundPost P p.a_ fun e aj=>∃ar x,e=.returned x∧E.le ar∧Rel ar v x∧a1 au ar ab aj) o9 yR) (fun _ _ _=>False))
   refine (Z2 ?_).wp
   cases ak:ex l.an l.assign (T.put .bad .bad ea (p3 o.params.toList args l.r)) h with
   | fail=>rw [ak] at he;cases he
   | ck _ _ _=>rw [ak] at he;cases he
   | ok e ae4 aa=>
     rw [ak] at he
     cases e<;>simp only at he<;>try (cases he;done)
     intro e9 bH bY aq av aK
     unfold B_ at he
     have hb:=aq _ _ ah
     have ij:=aK.at hb
     cases Mb:aa.get b<;>rw [Mb] at he ij<;>simp only at he<;>try (cases he;done)
     rename_i e6
     obtain ⟨b2,c2,xy,oc,og,pK⟩:=ij
     rw [hb] at xy;cases xy
     obtain ⟨cn,he⟩:=jb he
     rw [Nat.beq_eq] at cn
     obtain ⟨t1,t2,t3,t4,t5,t6,t7,t8⟩:=pK
     obtain ⟨g1,g2⟩:=aK.loop (P:=P) (ec:=⟨1,e6.dK,e6.d,e6.an,e6.r,e6.bc,e6.assign,e6.body⟩) (bX:={c2 with state:=.busy}) Mb hb oc og ⟨rfl,t2,t3,t4,t5,t6,t7,t8⟩
     refine ⟨{bY with heap:=bY.heap.setIfInBounds p.a_ (.loop {c2 with state:=.busy})},?_,?_⟩
     · have xF:c2.state=.ready:=by rw [t1,cn];rfl
       simp only [Instr.beginRound,Sem.run_bind,run_getLoop og,Result.andThen_ok,g1,xF,Sem.run_pure]
     · refine (hex l.an l.body (some p.a_) au _ _ (.inr g') e9 _ _ av g2 _ ?_).wp
       cases u6:ex l.an l.body ae4 (aa.set b (.cY ⟨1,e6.dK,e6.d,e6.an,e6.r,e6.bc,e6.assign,e6.body⟩)) with
       | fail=>rw [u6] at he;cases he
       | ck _ _ _=>rw [u6] at he;cases he
       | ok aY BX ae=>
         rw [u6] at he
         simp only at he
         intro bQ a2 bK cm z2 z3
         exact PG z3 (cm _ _ hb) he fun x aj dH fW=>⟨bQ,x,rfl,aq.trans cm,dH,fW⟩
theorem Vt (cO:C.P.follows .mixedOrders=true) (bx:dU C.P) (fy:mN C) {ex:gB} (hex:qp C.P ex):fv C.P (pe C ex) where
 fn:=by
  intro au f args h v ab ax he E w xs ai s
  unfold pe at he
  rw [fY,if_neg ax] at he
  cases ak:C.ext f with
  | some p=>
    rw [ak] at he
    simp only at he
    cases aH:p.run args h with
    | fail=>rw [aH] at he;cases he
    | ck _ _=>rw [aH] at he;cases he
    | val v1 aa=>
      rw [aH] at he
      simp only [aV.Hn,aV.val.injEq] at he
      obtain ⟨rfl,rfl⟩:=he
      exact .inr (fy.2 f p args h _ _ ak aH au E w xs ai s)
  | none=>
  rw [ak] at he
  simp only at he
  exact .inl (Au bx cO fy hex ai s (by rw [he];exact fun ar x aj aq av aK=>⟨ar,x,rfl,aq,av,aK⟩))
 ck:=by
  intro au f args h v ab ax he E w xs ai s
  unfold pe at he
  rw [fY,if_neg ax] at he
  cases ak:C.ext f with
  | some p=>
    rw [ak] at he
    simp only at he
    cases aH:p.run args h<;>rw [aH] at he<;>cases he
  | none=>
  rw [ak] at he
  simp only at he
  exact Au bx cO fy hex ai s (by rw [he];exact fun ar x aj aq av aK=>⟨ar,x,rfl,aq,av,aK⟩)
 QP:=by
  intro au args b h v ab he E w xs p ai s ah
  unfold pe at he
  rw [fY,if_pos rfl] at he
  unfold H7 at he
  rw [Qa] at he
  exact afq hex he ai s ah
 QS:=by
  intro args h v ab he
  unfold pe at he
  rw [fY,if_pos rfl] at he
  have aN:∀b e h,ti b e h≠.ck v ab:=by
   intro b e h he
   unfold ti at he
   split at he
   · cases e<;>cases he
   · cases he
  have aY:∀an c b r h,B_ ex an c b r h≠.ck v ab:=by
   intro an c b r h he
   unfold B_ at he
   split at he
   case h_2=>cases he
   rename_i l ai
   cases ao:Nat.beq l.st 0 with
   | false=>rw [ao] at he;cases he
   | true=>
     rw [ao] at he
     simp only [cond_true] at he
     split at he
     · exact aN _ _ _ he
     · cases he
  have cz:∀xs b h,yD ex xs b h≠.ck v ab:=by
   intro xs b h he
   unfold yD at he
   split at he
   case h_2=>cases he
   rename_i l ai
   cases ao:(Nat.beq xs.length l.bc.length&&(mB l.an l.bc&&(noMark l.assign&&noMark l.body))) with
   | false=>rw [ao] at he;cases he
   | true=>
     rw [ao] at he
     simp only [cond_true] at he
     split at he
     case h_2=>cases he
     rename_i e r aa _
     cases e<;>simp only at he<;>try (cases he;done)
     exact aY _ _ _ _ _ he
  unfold H7 at he
  split at he
  case h_2=>cases he
  split at he
  case h_2=>cases he
  exact cz _ _ _ he
end
end Go.Proofs.YtkehcalakofigaaGreatDoor.aS
namespace Go.Proofs.YtkehcalakofigaaGreatDoor.aS
variable [Lay]
open Go Go.RowKit
section
variable {C:Ctx}
theorem WO {P:Program} {e:c6} {Q:Exit→Act→World→Prop} {a:Act} {w:World} (h:Q (toExit e) a w):(ET e).wpIn (bU none) 0 P Q a w:=by
 cases e with
 | normal=>exact wpIn_skip h
 | exit id=>exact wpIn_exit h
 | ret=>exact wpIn_ret h
theorem afa (cO:C.P.follows .mixedOrders=true) (bx:dU C.P) (fy:mN C) {ex:gB} (hex:qp C.P ex) {f:Operand} {bc:Array Tmp} {assign body:Code} {an:Nat} {au:Fr} {E:Env} {r:br} {h:af} {a:Act} {w:World} {Q:Exit→Act→World→Prop}
 (k:eA E an r a) (s:a1 au E h w) (ah:tK au E an Q (HS (fun g args h=>(uv C g).run ex args h) (bE f) bc.toList an assign body r h)):(Code.rangeFunc f bc assign body).wpIn (bU none) 0 C.P Q a w:=by
 unfold HS at ah
 have ax:=de k.toRegRel0 f
 generalize (bE f).run r=ts at ah ax
 cases ts<;>simp only at ah<;>try (exact ah.elim)
 rename_i g cs
 rw [fY] at ah
 by_cases aG:g=cR
 · rw [if_pos aG] at ah;exact ah.elim
 · rw [if_neg aG] at ah
   simp only [Rel] at ax
   rcases ax with ⟨_,dY,cQ,ai⟩ | ⟨FI,_⟩
   case inr=>exact absurd FI aG
   refine wpIn_rangeFunc fun fn _=>?_
   have f0:=s.fresh h.next (Nat.le_refl _)
   obtain ⟨e9,se⟩:∃e9,e9=E.put (ay h.next) ⟨w.heap.size,0,0⟩:=⟨_,rfl⟩
   obtain ⟨bY,nn⟩:∃bY:World,bY={w with heap:=w.heap.push (.deferred (some []))}:=⟨_,rfl⟩
   have xB:e9 (ay h.next)=some ⟨w.heap.size,0,0⟩:=by rw [se];unfold Env.put;rw [if_pos rfl]
   have s1:a1 au e9 (h.new .eu) bY:=by
    rw [se,nn]
    refine s.alloc 0 ⟨⟨w.heap.size,0,0⟩,by unfold Env.put;rw [if_pos rfl],s.frame.size,by simp⟩
   have mq:E.le e9:=by rw [se];exact Env.jn f0
   have sN:bY.heap.size=w.heap.size+1:=by rw [nn];simp
   obtain ⟨o,aR⟩:∃o:Loop,o={state:=.ready,pending:=none,fn,tmps:=a.tmps,params:=bc,assign,body,defers:=w.heap.size}:=⟨_,rfl⟩
   obtain ⟨bQ,pq⟩:∃bQ,bQ=e9.put (ay (h.next+1)) ⟨bY.heap.size,0,0⟩:=⟨_,rfl⟩
   obtain ⟨bK,qS⟩:∃bK:World,bK={bY with heap:=bY.heap.push (.loop o)}:=⟨_,rfl⟩
   have f1:e9 (ay (h.next+1))=none:=s1.fresh (h.next+1) (Nat.le_refl _)
   have jW:e9.le bQ:=by rw [pq];exact Env.jn f1
   have xC:bQ (ay (h.next+1))=some ⟨bY.heap.size,0,0⟩:=by rw [pq];unfold Env.put;rw [if_pos rfl]
   have cY:rR bQ ⟨0,none,ay h.next,an,r,bc.toList,assign,body⟩ o:=by
    subst aR
    exact ⟨rfl,rfl,rfl,rfl,rfl,k.size,fun t aD=>Rel.mono (mq.trans jW) _ _ (k.aE t aD),_,jW _ _ xB,rfl⟩
   have s2:a1 au bQ ((h.new .eu).new (.cY ⟨0,none,ay h.next,an,r,bc.toList,assign,body⟩)) bK:=by
    rw [pq,qS]
    refine s1.alloc 0 ⟨⟨bY.heap.size,0,0⟩,o,by show e9.put (ay (h.next+1)) _ (ay (h.next+1))=_;unfold Env.put;rw [if_pos rfl],by show au.w.heap.size≤bY.heap.size;rw [sN];have:=s.frame.size;omega,by simp,?_⟩
    have:=cY
    rw [pq] at this
    exact this
   obtain ⟨gw,ng⟩:∃gw,gw=bY.heap.size:=⟨_,rfl⟩
   have a6:Rel bQ (.func cR [.ptr (ay (h.next+1)) 0]) (.func (.yield gw) #[] #[]):=by
    simp only [Rel]
    exact .inr ⟨trivial,_,_,rfl,xC,by rw [ng]⟩
   have mZ:a8 bQ (.func cR [.ptr (ay (h.next+1)) 0]::cs) (.func (.yield gw) #[] #[]::dY.toList):=by
    simp only [a8]
    exact ⟨_,_,rfl,a6,a8.mono (mq.trans jW) _ _ ai⟩
   have cy:=Au (C:=C) bx cO fy hex (f:=g) mZ s2 (R:=rangePost (bU none) 0 C.P gw Q {a with defers:=[{target:=.collected w.heap.size,args:=#[]}]++a.defers})
   cases aH:(uv C g).run ex (.func cR [.ptr (ay (h.next+1)) 0]::cs) ((h.new .eu).new (.cY ⟨0,none,ay h.next,an,r,bc.toList,assign,body⟩)) with
   | fail=>rw [aH] at ah;exact ah.elim
   | ck _ _=>rw [aH] at ah;exact ah.elim
   | val v ab=>
     rw [aH] at ah cy
     simp only at ah
     obtain ⟨⟨W_,gG,ag⟩,ao⟩:=cy (by
      intro ar x aj aq av aK
      simp only [rangePost]
      unfold Pp at ah
      have h5:=aq _ _ xC
      have ag:=aK.at h5
      cases su:ab.get (ay (h.next+1))<;>rw [su] at ah ag<;>simp only at ah<;>try (exact ah.elim)
      rename_i l
      obtain ⟨p',bX,fK,cN,a',FV⟩:=ag
      rw [h5] at fK;cases fK
      obtain ⟨t1,t2,t3,t4,t5,t6,t7,t8⟩:=FV
      rw [fY] at ah
      by_cases cn:l.st=1
      · rw [if_pos cn] at ah;exact ah.elim
      · rw [if_neg cn] at ah
        simp only at a'
        rw [←ng] at a'
        have F4:(bX.state == LoopState.busy)=false:=by
         rw [t1]
         match lG:l.st with
         | 0=>rfl
         | 1=>exact absurd lG cn
         | n+2=>rfl
        have jN:=(Array.getElem?_eq_some_iff.1 a').1
        let hT:World:={aj with heap:=aj.heap.setIfInBounds gw (.loop {bX with state:=.exhausted})}
        have e2:(Instr.endLoop gw).run C.P aj=.ok bX.pending hT:=by
         have pN:(setObj gw (.loop {bX with state:=.exhausted})).run C.P aj=.ok () hT:=by simp only [setObj,Sem.run,a'];rfl
         simp only [Instr.endLoop,Sem.run_bind,run_getLoop a',Result.andThen_ok,F4,Bool.false_eq_true,if_false,pN,Sem.run_pure]
        have vG:a1 au ar (ab.set (ay (h.next+1)) .dead) hT:=by
         refine aK.gone (p:=⟨bY.heap.size,0,0⟩) (by rw [su];rfl) h5 cN (by simp [hT]) (fun j bI=>?_) rfl rfl rfl
         simp only at bI
         simp only [hT,Array.getElem?_setIfInBounds]
         rw [if_neg (fun e=>bI (by rw [←e,ng]))]
        have fR:eA ar an (T.put .bad (.tuple (.ptr (ay h.next) 0::(T.get .bad ea r).list)) ea r) {a with defers:=[{target:=.collected w.heap.size,args:=#[]}]++a.defers}:=by
         refine ⟨⟨k.size,fun t aD=>?_⟩,?_⟩
         · rw [T.gF,if_neg (fun e=>s' aD e.symm)]
           exact Rel.mono (mq.trans (jW.trans aq)) _ _ (k.aE t aD)
         · rw [T.gF,if_pos rfl]
           simp only [jy,lo,List.cons_append,List.nil_append]
           exact ⟨_,_,rfl,⟨_,aq _ _ (jW _ _ xB),rfl⟩,(k.defers.mono (mq.trans (jW.trans aq))).list⟩
        refine ⟨bX.pending,hT,e2,?_⟩
        rw [t2]
        cases iK:l.dK with
        | none=>
          rw [iK] at ah
          exact ah ar _ hT (mq.trans (jW.trans aq)) fR vG
        | some e=>
          rw [iK] at ah
          exact WO (ah ar _ hT (mq.trans (jW.trans aq)) fR vG))
     refine ⟨gw,[{target:=.collected w.heap.size,args:=#[]}],bK,{target:=.fn (.func g) dY,args:=#[]++#[.func (.yield gw) #[] #[]]},bK,g,_,bK,?_,?_,fun _ _=>trivial,?_,fun h=>by simp at h,qA.2 ao⟩
     · subst aR qS nn
       have he:=run_enterLoop_outer (P:=C.P) (w:=w) fn a.tmps bc assign body
       rw [World.alloc,World.alloc] at he
       simp only [Array.size_push] at ng ⊢
       rw [ng]
       exact he
     · simp only [resolve,cQ,Deferred.ofValue,Sem.run_pure]
       simp [Act.eval]
     · simp only [invoke]
       have e:(#[]++#[Value.func (.yield gw) #[] #[]]:Array Value)++dY=(Value.func (.yield gw) #[] #[]::dY.toList).toArray:=by apply Array.ext';simp
       rw [e]
       exact rp bx gG ag _ bK
theorem vL {P:Program} {b:Frame} {a:Act} {k:List Item} {cs:List Frame} {w:World} {c:Code}:
 step P (lone (b.atR a (.code (.scope c)::k)) cs w)=.next (lone (b.atR a (.code c::.inScope c::k)) cs w):=
 step_lone_go (by simp [stepG,stepG.exec,Frame.atR])
theorem agi {P:Program} {b:Frame} {a:Act} {k:List Item} {cs:List Frame} {w:World} {c:Code}:
 step P (lone (b.atR a (.inScope c::k)) cs w)=.next (lone (b.atR a k) cs w):=
 step_lone_go (by simp [stepG,stepG.exec,Frame.atR])
theorem PW {P:Program} {rd:Option Nat} {c:Code} {Q:Exit→Act→World→Prop} {a:Act} {w:World} (h:c.wpIn (bU rd) 0 P (Exit.noGoto Q) a w):(Code.scope c).wpIn (bU rd) 0 P Q a w:=by
 intro b k cs jQ ag aH
 obtain ⟨e,o9,qk,aC,hY⟩:=h b (.inScope c::k) cs jQ ag aH
 have ak:∀id,exitTo id (.inScope c::k)=exitTo id k:=fun id=>by simp [exitTo]
 cases e with
 | normal=>exact ⟨.normal,o9,qk,aC,.head (oa _) vL (StepsIn.trans hY (.one (oa _) agi))⟩
 | exit id=>exact ⟨.exit id,o9,qk,aC,fun bl aA=>.head (oa _) vL (hY.1 bl (by rw [ak];exact aA)),fun pJ aA=>let ⟨k₁,aa,ae⟩:=hY.2 pJ (by rw [ak];exact aA);⟨k₁,aa,.head (oa _) vL ae⟩⟩
 | goto l=>exact aC.elim
 | ret=>exact ⟨_,o9,qk,aC,.of_steps (.one (oa _) vL) hY⟩
 | panic ahK=>exact ⟨_,o9,qk,aC,.of_steps (.one (oa _) vL) hY⟩
 | outgrown=>exact ⟨_,o9,qk,aC,.of_steps (.one (oa _) vL) hY⟩
theorem VZ (cO:C.P.follows .mixedOrders=true) (bx:dU C.P) (fy:mN C) {ex:gB} (hex:qp C.P ex) (an:Nat):∀c:Code,IT C.P an c ((hE C an c).run ex):=by
 have cy:=Vt cO bx fy hex
 have c9:=Vs (C:=C) ex
 intro c
 induction c with
 | skip=>
   intro rd au r h aH E a w k s Q ah
   exact wpIn_skip (ah E a w (Env.le.refl E) k s)
 | label l=>
   intro rd au r h aH E a w k s Q ah
   exact wpIn_label (ah E a w (Env.le.refl E) k s)
 | exit id=>
   intro rd au r h aH E a w k s Q ah
   exact wpIn_exit (ah E a w (Env.le.refl E) k s)
 | ret=>
   intro rd au r h aH E a w k s Q ah
   exact wpIn_ret (ah E a w (Env.le.refl E) k s)
 | region id ops draw=>
   intro rd au r h aH E a w k s Q ah
   have lift:∀x:l3,tK au E an Q (match x with | .ok bo ab=>.ok .normal bo ab | .ck v bo ab=>.ck v bo ab | .fail=>.fail)→lv au E an (Q .normal) Q x:=by
    intro x ak
    cases x<;>exact ak
   cases draw with
   | true=>
     simp only [hE,cond_true,B7] at ah
     exact Wr cO bx cy c9 (lift _ ah) k s
   | false=>
     simp only [hE,cond_false,B7] at ah
     refine wpIn_region ?_
     have:=OA (rd:=rd) (Q:=Q) bx cy c9 ops.toList 0 (fun j=>by simp) (aH.imp (fun h=>h) fun h=>by simpa only [noMark,List.all_eq_true] using h) E r h a w (lift _ ah) k s
     rw [List.range_eq_range']
     simpa using this
 | seq x y sQ sR=>
   intro rd au r h aH E a w k s Q ah
   simp only [hE,PX] at ah
   have uY:rd=none∨noMark x=true:=aH.imp (fun h=>h) fun h=>by simp only [noMark,Bool.and_eq_true] at h;exact h.1
   have Gn:rd=none∨noMark y=true:=aH.imp (fun h=>h) fun h=>by simp only [noMark,Bool.and_eq_true] at h;exact h.2
   refine wpIn_seq (sQ rd au r h uY E a w k s _ ?_).wp
   cases ak:(hE C an x).run ex r h with
   | fail=>rw [ak] at ah;exact ah
   | ck v bz aa=>rw [ak] at ah;exact ah
   | ok aN bz aa=>
     rw [ak] at ah
     simp only at ah
     intro ar bg aj aq av aK
     cases aN with
     | normal=>exact (sR rd au bz aa Gn ar bg aj av aK Q (ah.up aq)).wp
     | exit id=>exact ah ar bg aj aq av aK
     | ret=>exact ah ar bg aj aq av aK
 | cond c x y sQ sR=>
   intro rd au r h aH E a w k s Q ah
   simp only [hE,Ku] at ah
   have uY:rd=none∨noMark x=true:=aH.imp (fun h=>h) fun h=>by simp only [noMark,Bool.and_eq_true] at h;exact h.1
   have Gn:rd=none∨noMark y=true:=aH.imp (fun h=>h) fun h=>by simp only [noMark,Bool.and_eq_true] at h;exact h.2
   have ao:=de k.toRegRel0 c
   cases bp:(bE c).run r<;>rw [bp] at ah ao<;>simp only at ah<;>try (exact ah.elim)
   rename_i t
   simp only [Rel] at ao
   cases t with
   | true=>exact wpIn_cond_true ao (sQ rd au r h uY E a w k s Q ah).wp
   | false=>exact wpIn_cond_false ao (sR rd au r h Gn E a w k s Q ah).wp
 | block id x bf=>
   intro rd au r h aH E a w k s Q ah
   simp only [hE,JX] at ah
   refine wpIn_block (bf rd au r h (aH.imp (fun h=>h) fun h=>h) E a w k s _ ?_).wp
   cases ak:(hE C an x).run ex r h with
   | fail=>rw [ak] at ah;exact ah
   | ck v bz aa=>rw [ak] at ah;exact ah
   | ok aN bz aa=>
     rw [ak] at ah
     simp only at ah
     intro ar bg aj aq av aK
     cases aN with
     | normal=>exact ah ar bg aj aq av aK
     | ret=>exact ah ar bg aj aq av aK
     | exit i=>
       simp only [fY] at ah
       simp only [toExit,Exit.inBlock]
       by_cases az:i=id
       · rw [if_pos az] at ah ⊢;exact ah ar bg aj aq av aK
       · rw [if_neg az] at ah ⊢;exact ah ar bg aj aq av aK
 | loop x bf=>
   intro rd au r h aH E a w k s Q ah
   simp only [hE,NO] at ah
   have uY:rd=none∨noMark x=true:=aH.imp (fun h=>h) fun h=>h
   intro b cJ cs jQ
   cases ak:(hE C an x).run ex r h with
   | fail=>rw [ak] at ah;exact ah.elim
   | ck v bz aa=>
     rw [ak] at ah
     have body:=(bf rd au r h uY E a w k s (fun cU bg aj=>∃y,cU=.panic y∧Q cU bg aj) (by rw [ak];exact fun ar bg aj x aq av aK bD=>⟨_,rfl,ah ar bg aj x aq av aK bD⟩)).wp b (.inLoop x::cJ) cs jQ trivial (H5 _)
     obtain ⟨aY,a2,bK,⟨y,rfl,q⟩,hY⟩:=body
     exact ⟨_,a2,bK,q,.pass (x:=.inLoop x) rfl (fun _ _=>.inl (by simp)) hY⟩
   | ok aN bz aa=>
     rw [ak] at ah
     simp only at ah
     have body:=(bf rd au r h uY E a w k s
      (fun cU bg aj=>cU=toExit aN∧∃ar,E.le ar∧eA ar an bz bg∧a1 au ar aa aj) (by rw [ak];exact fun ar bg aj aq av aK=>⟨rfl,ar,aq,av,aK⟩)).wp b (.inLoop x::cJ) cs jQ trivial (H5 _)
     obtain ⟨aY,a2,bK,⟨rfl,bQ,aq,av,aK⟩,hY⟩:=body
     cases aN with
     | normal=>
       have next:=hex an (.loop x) rd au bz aa aH bQ a2 bK av aK Q (ah.up aq)
       obtain ⟨cz,a3,mJ,b2,cq⟩:=next b cJ cs jQ
       exact ⟨cz,a3,mJ,b2,.of_steps (StepsIn.trans hY (.one (oa _) stepR_inLoop)) cq⟩
     | exit id=>exact ⟨.exit id,a2,bK,ah bQ a2 bK aq av aK,.pass (x:=.inLoop x) rfl (fun _ _=>.inl (by simp)) hY⟩
     | ret=>exact ⟨.ret,a2,bK,ah bQ a2 bK aq av aK,.pass (x:=.inLoop x) rfl (fun _ _=>.inl (by simp)) hY⟩
 | scope x bf=>
   intro rd au r h aH E a w k s Q ah
   simp only [hE] at ah
   refine PW (bf rd au r h (aH.imp (fun h=>h) fun h=>h) E a w k s _ ?_).wp
   cases ak:(hE C an x).run ex r h with
   | fail=>rw [ak] at ah;exact ah
   | ck v bz aa=>rw [ak] at ah;exact ah
   | ok aN bz aa=>
     rw [ak] at ah
     intro ar bg aj aq av aK
     have:=ah ar bg aj aq av aK
     cases aN<;>exact this
 | rangeFunc f bc x y _ _=>
   intro rd au r h aH E a w k s Q ah
   rcases aH with rfl | aH
   case inr=>cases aH
   simp only [hE] at ah
   exact afa cO bx fy hex k s ah
 | goto l=>intro rd au r h aH E a w k s Q ah;exact ah.elim
 | refuse ag6=>intro rd au r h aH E a w k s Q ah;exact ah.elim
end
end Go.Proofs.YtkehcalakofigaaGreatDoor.aS
namespace Go.Proofs.YtkehcalakofigaaGreatDoor.aS
variable [Lay]
open Go Go.RowKit
section
variable {C:Ctx}
theorem K' (cO:C.P.follows .mixedOrders=true) (bx:dU C.P) (fy:mN C):∀n,qp C.P (exec C n)
 | 0=>fun an c rd au r h aH E a w k s Q ah=>ah.elim
 | n+1=>fun an c=>VZ cO bx fy (K' cO bx fy n) an c
theorem Ep (cO:C.P.follows .mixedOrders=true) (bx:dU C.P) (fy:mN C) {n:Nat} {f:FuncId} {args:List V} {h ab:af} {v:V} (ax:Nat.beq f cR=false) (ak:C.ext f=none) (he:pd C n f args h=.val v ab)
 {au:Fr} {E:Env} {w:World} {xs:List Value} (ai:a8 E args xs) (s:a1 au E h w):
 (∃fn,C.P.funcs[f]? =some fn∧fn.body.isSome=true)∧Calls C.P f xs.toArray w fun e aj=>∃ar x,e=.returned x∧E.le ar∧Rel ar v x∧a1 au ar ab aj:=by
 unfold pd pe at he
 rw [ax,cond_false,ak] at he
 simp only at he
 exact Au bx cO fy (K' cO bx fy n) ai s (by rw [he];exact fun ar x aj aq av aK=>⟨ar,x,rfl,aq,av,aK⟩)
theorem Cf (w:World) (hw:Lay.ok w):a1 ⟨w,fun _=>none⟩ (fun _=>none) af.empty w:=by
 refine ⟨fun b _=>?_,fun _ _ h=>(by cases h),(fun b bC p p' _ _ h=>by cases h),fun _ _=>rfl,Below.refl _ _,hw,(fun _ _ _ _ _ _ h=>by cases h)⟩
 have:af.empty.get b=.dead:=by simp [af.get,af.empty]
 rw [this]
 trivial
theorem agO (cO:C.P.follows .mixedOrders=true) (bx:dU C.P) {w:World} (hw:Lay.ok w) (fy:mN C) {n:Nat} {f:FuncId} (ax:Nat.beq f cR=false) (ak:C.ext f=none) (h:Ix C n f []=true):
 Calls C.P f #[] w fun e aj=>e=.returned (.bool true)∧Below w.heap.size w aj:=by
 unfold Ix at h
 cases ao:pd C n f [] af.empty with
 | fail=>rw [ao] at h;cases h
 | ck _ _=>rw [ao] at h;cases h
 | val v a'=>
   rw [ao] at h
   simp only at h
   cases v<;>simp only at h<;>try (cases h;done)
   subst h
   obtain ⟨_,h0⟩:=Ep cO bx fy ax ak ao (au:=⟨w,fun _=>none⟩) (E:=fun _=>none) (w:=w) (xs:=[]) rfl (Cf w hw)
   refine h0.mono fun e aj aC=>?_
   obtain ⟨ar,x,rfl,_,av,aK⟩:=aC
   simp only [Rel] at av
   subst av
   exact ⟨rfl,aK.frame⟩
end
end Go.Proofs.YtkehcalakofigaaGreatDoor.aS
namespace Go.Proofs.YtkehcalakofigaaGreatDoor.aS
variable [Lay]
open Go Go.RowKit Go.ChangeShapes Go.WideShapes
section
variable {H:Type} {enc:TypeId × Value→H} {P:Program}
end
end Go.Proofs.YtkehcalakofigaaGreatDoor.aS
namespace Go.Proofs.YtkehcalakofigaaGreatDoor.aS
variable [Lay]
open Go Go.RowKit
theorem a1.below {au:Fr} {E:Env} {h:af} {w aj:World} (s:a1 au E h w) (ag:Below w.heap.size w aj):a1 au E h aj:=by
 have b5:au.w.heap.size≤w.heap.size:=s.frame.size
 have e5:∀(k:Nat) (o:Obj),w.heap[k]? =some o→aj.heap[k]? =some o:=by
  intro k o aA
  rw [ag.block k,aA]
  by_cases aP:k<w.heap.size
  · exact aP
  · rw [Array.getElem?_eq_none (by omega)] at aA
    cases aA
 refine ⟨fun b ah=>?_,s.mA,s.inj,s.fresh,s.frame.trans (ag.mono b5),s.laid,s.base⟩
 have:=s.a_ b ah
 cases aA:h.get b<;>rw [aA] at this<;>simp only [fl] at this ⊢
 · obtain ⟨aq,p,c,el,bL,av,aK,bD,dr⟩:=this
   exact ⟨aq,p,c,el,bL,av,aK,e5 _ _ bD,dr⟩
 · obtain ⟨aq,p,c,el,bL,av,aK,bD,dr⟩:=this
   exact ⟨aq,p,c,el,bL,av,aK,e5 _ _ bD,dr⟩
 · obtain ⟨p,aq,av,aK,bD⟩:=this
   exact ⟨p,aq,av,aK,e5 _ _ bD⟩
 · obtain ⟨p,a,aq,av,aK,bD⟩:=this
   exact ⟨p,a,aq,av,e5 _ _ aK,bD⟩
 · obtain ⟨p,o,aq,av,aK,bD⟩:=this
   exact ⟨p,o,aq,av,e5 _ _ aK,bD⟩
 · obtain ⟨p,aq,av,aK⟩:=this
   exact ⟨p,aq,av,e5 _ _ aK⟩
 · obtain ⟨p,a,c,l,aq,av,aK,bD⟩:=this
   exact ⟨p,a,c,l,aq,av,e5 _ _ aK,bD⟩
 · obtain ⟨p,m,a,aq,av,aK,bD,dr⟩:=this
   exact ⟨p,m,a,aq,av,aK,e5 _ _ bD,dr⟩
theorem acv {P:Program} {f:FuncId} {args:List V} {v:V} {h:af} (H:∀E xs w,Lay.ok w→a8 E args xs→Calls P f xs.toArray w fun e aj=>∃x,e=.returned x∧Rel E v x∧Below w.heap.size w aj)
 (au:Fr) (E:Env) (w:World) (xs:List Value) (ak:a8 E args xs) (s:a1 au E h w):Calls P f xs.toArray w fun e aj=>∃ar x,e=.returned x∧E.le ar∧Rel ar v x∧a1 au ar h aj:=by
 refine (H E xs w (Lay.e5 s.laid s.frame) ak).mono fun e aj q=>?_
 obtain ⟨x,rfl,bp,ag⟩:=q
 exact ⟨E,x,rfl,Env.le.refl E,bp,s.below ag⟩
theorem WR {P:Program} {f:FuncId} {fn:Func} {e:Array Value→Sem Value} (ax:P.funcs[f]? =some fn) (aZ:(fn.name == "runtime.NumGoroutine")=false) (ag:fn.body.isNone=true) (aa:Extern.findNext fn=none) (ae:Extern.find fn=some e)
 {xs:Array Value} {x:Value} {w:World} (aH:(e xs).run P w=.ok x w):(callFunc f xs).run P w=.ok (.value x) w:=by
 simp only [callFunc,Sem.run_bind,run_program,Result.andThen_ok,ax]
 rw [if_neg (by rw [aZ];simp),if_pos ag]
 simp only [Sem.run_bind,aa,ae]
 have hm:(mark (.extern f)).run P w=.ok () w:=rfl
 rw [hm]
 simp only [Result.andThen_ok,aH,Sem.run_pure]
def xW (c:Nat):List UInt8→Nat→Int
 | [],_=>-1
 | b::l,i=>bif Nat.beq b.toNat c then .ofNat i else xW c l (i+1)
theorem Nf (c:Nat) (ao:c<256):∀(l:List UInt8) (i:Nat),xW c l i=if Lib.indexByte l c.toUInt8=-1 then -1 else Lib.indexByte l c.toUInt8+i
 | [],i=>by simp [xW,Lib.indexByte]
 | b::l,i=>by
   have h1:=Lib.indexByte_ge l c.toUInt8
   have qM:(b.toNat=c)↔(b == c.toUInt8)=true:=by
    rw [beq_iff_eq,←UInt8.toNat_inj]
    have:c.toUInt8.toNat=c:=by
     show c % 256=c
     omega
    rw [this]
   have e:Lib.indexByte (b::l) c.toUInt8=if (b == c.toUInt8)=true then 0 else if (Lib.indexByte l c.toUInt8 == -1)=true then -1 else Lib.indexByte l c.toUInt8+1:=rfl
   simp only [xW,Nf c ao l (i+1),fY]
   by_cases h:b.toNat=c
   · rw [if_pos (qM.1 h)] at e
     rw [if_pos h,e]
     simp
   · rw [if_neg (fun e=>h (qM.2 e))] at e
     rw [if_neg h]
     by_cases ae:Lib.indexByte l c.toUInt8=-1
     · rw [ae] at e
       simp only [beq_self_eq_true,if_true] at e
       simp [ae,e]
     · have aF:(Lib.indexByte l c.toUInt8 == -1)=false:=by simpa using ae
       rw [aF] at e
       simp only [Bool.false_eq_true,if_false] at e
       rw [if_neg ae,e,if_neg (by omega)]
       omega
def preB:List UInt8→List UInt8→Bool
 | [],_=>true
 | _::_,[]=>false
 | a::x,b::y=>bif Nat.beq a.toNat b.toNat then preB x y else false
theorem HI:∀(x y:List UInt8),preB x y=x.isPrefixOf y
 | [],y=>by cases y<;>rfl
 | _::_,[]=>rfl
 | a::x,b::y=>by
   simp only [preB,List.isPrefixOf,fY,HI x y]
   by_cases h:a.toNat=b.toNat
   · have:a=b:=UInt8.toNat_inj.1 h
     subst this
     simp
   · have:(a == b)=false:=by
      rw [beq_eq_false_iff_ne]
      exact fun e=>h (by rw [e])
     rw [if_neg h,this]
     rfl
def hasB:List UInt8→List UInt8→Bool
 | [],sub=>preB sub []
 | b::l,sub=>bif preB sub (b::l) then true else hasB l sub
theorem L0:∀(s sub:List UInt8),hasB s sub=Lib.contains s sub
 | [],sub=>by
   simp only [hasB,HI,Lib.contains,Lib.index]
   cases sub<;>simp
 | b::l,sub=>by
   simp only [hasB,HI]
   have bf:=L0 l sub
   unfold Lib.contains at bf ⊢
   unfold Lib.index
   cases h:sub.isPrefixOf (b::l) with
   | true=>simp
   | false=>
     simp only [cond_false,Bool.false_eq_true,if_false,bf]
     have h1:=Lib.index_ge l sub
     cases ae:(Lib.index l sub == -1) with
     | true=>
       have:Lib.index l sub=-1:=by simpa using ae
       simp [this]
     | false=>
       have:Lib.index l sub≠-1:=by simpa using ae
       simp only [Bool.false_eq_true,if_false]
       rw [Bool.eq_iff_iff,decide_eq_true_eq,decide_eq_true_eq]
       omega
def Ex:tL:=⟨fun args h=>match args with
 | [x,y]=>(match x with
   | .str s=>(match y with
     | .str sub=>bif Nat.ble s.length 100000 then .val (.bool (hasB s sub)) h else .fail
     | _=>.fail)
   | _=>.fail)
 | _=>.fail⟩
theorem V3 {args:List V} {h ab:af} {v:V} (he:Ex.run args h=.val v ab):∃s sub,args=[.str s,.str sub]∧s.length≤100000∧v=.bool (Lib.contains s sub)∧ab=h:=by
 simp only [Ex] at he
 split at he
 case h_2=>cases he
 split at he
 case h_2=>cases he
 split at he
 case h_2=>cases he
 obtain ⟨ao,aa⟩:=jb he
 simp only [aV.val.injEq] at aa
 obtain ⟨rfl,rfl⟩:=aa
 exact ⟨_,_,rfl,Nat.le_of_ble_eq_true ao,by rw [L0],rfl⟩
def A9:tL:=⟨fun args h=>match args with
 | [x,y]=>(match x with
   | .str s=>(match y with
     | .int k c=>bif l_ k .u8&&(Int.leB 0 c&&Nat.blt c.toNat 256) then .val (.int .i64 (xW c.toNat s 0)) h else .fail
     | _=>.fail)
   | _=>.fail)
 | _=>.fail⟩
theorem aap {args:List V} {h ab:af} {v:V} (he:A9.run args h=.val v ab):∃s c,args=[.str s,.int .u8 c]∧v=.int .i64 (Lib.indexByte s c.toNat.toUInt8)∧ab=h:=by
 simp only [A9] at he
 split at he
 case h_2=>cases he
 split at he
 case h_2=>cases he
 split at he
 case h_2=>cases he
 rename_i s _ k c
 obtain ⟨ao,aa⟩:=jb he
 simp only [Bool.and_eq_true,Nat.blt_eq] at ao
 have aA:=qD ao.1
 subst aA
 simp only [aV.val.injEq] at aa
 obtain ⟨rfl,rfl⟩:=aa
 refine ⟨s,c,rfl,?_,rfl⟩
 rw [Nf _ ao.2.2]
 by_cases h:Lib.indexByte s c.toNat.toUInt8=-1
 · rw [if_pos h,h]
 · rw [if_neg h]
   simp
theorem aao {P:Program} {f:FuncId} {fn:Func} (ax:P.funcs[f]? =some fn) (aZ:(fn.name == "runtime.NumGoroutine")=false) (ag:fn.body.isNone=true) (aa:Extern.findNext fn=none) (ae:Extern.find fn=some Extern.BytealgIndexByte.indexByte)
 {args:List V} {h ab:af} {v:V} (he:A9.run args h=.val v ab) (au:Fr) (E:Env) (w:World) (xs:List Value) (ak:a8 E args xs) (s:a1 au E h w):
 ∃ar x aj,(callFunc f xs.toArray).run P w=.ok (.value x) aj∧E.le ar∧Rel ar v x∧a1 au ar ab aj:=by
 obtain ⟨t,c,rfl,rfl,rfl⟩:=aap he
 obtain ⟨y,b',rfl,aq,z,fX,rfl,av,rfl⟩:=ak
 simp only [Rel] at aq av
 subst aq av
 exact ⟨E,_,w,WR ax aZ ag aa ae (Lib.run_indexByteString _ _ _),Env.le.refl E,by simp [Rel],s⟩
end Go.Proofs.YtkehcalakofigaaGreatDoor.aS
namespace Go.Proofs.YtkehcalakofigaaGreatDoor.aS
variable [Lay]
open Go Go.RowKit Go.Maps Go.Sort Go.Shelf
open Go.Proofs (encStr)
def lA (clock:Nat):Nat→List b1→Bool
 | _,[]=>true
 | bG,m::ms=>Nat.ble bG m.born&&Nat.blt m.born clock&&lA clock (m.born+1) ms
theorem Dw {clock:Nat}:∀{bG:Nat} {es:List b1},lA clock bG es=true→(∀n ∈ es.map (·.born),bG≤n∧n<clock)∧(es.map (·.born)).Nodup
 | bG,[],_=>⟨by simp,by simp⟩
 | bG,m::ms,h=>by
   simp only [lA,Bool.and_eq_true,Nat.ble_eq,Nat.blt_eq] at h
   obtain ⟨g1,g2⟩:=Dw h.2
   refine ⟨fun n aZ=>?_,?_⟩
   · rw [List.map_cons] at aZ
     rcases List.mem_cons.1 aZ with rfl | aZ
     · exact h.1
     · have:=g1 n aZ
       omega
   · rw [List.map_cons]
     refine List.nodup_cons.2 ⟨fun q=>?_,g2⟩
     have:=g1 _ q
     omega
theorem OH {au:Fr} {E:Env} {h:af} {w:World} (s:a1 au E h w) {b:aO} {q:hn} (aR:(h.get b).own=true) (aC:E b=some q):q.a_<w.heap.size:=by
 have ag:=s.at aC
 cases aG:h.get b with
 | dead=>rw [aG] at aR;cases aR
 | view n cs=>rw [aG] at aR;cases aR
 | cells n cs cv st=>rw [aG] at ag;obtain ⟨_,dS,c,el,bL,e,_,a',_⟩:=ag;rw [e] at aC;cases aC;exact (Array.getElem?_eq_some_iff.1 a').1
 | iter st pos=>rw [aG] at ag;obtain ⟨dS,e,_,_,a'⟩:=ag;rw [e] at aC;cases aC;exact (Array.getElem?_eq_some_iff.1 a').1
 | mp es clock=>rw [aG] at ag;obtain ⟨dS,a,e,_,a',_⟩:=ag;rw [e] at aC;cases aC;exact (Array.getElem?_eq_some_iff.1 a').1
 | cY l=>rw [aG] at ag;obtain ⟨dS,o,e,_,a',_⟩:=ag;rw [e] at aC;cases aC;exact (Array.getElem?_eq_some_iff.1 a').1
 | eu=>rw [aG] at ag;obtain ⟨dS,e,_,a'⟩:=ag;rw [e] at aC;cases aC;exact (Array.getElem?_eq_some_iff.1 a').1
 | gx es=>rw [aG] at ag;obtain ⟨dS,a,c,l,e,_,a',_⟩:=ag;rw [e] at aC;cases aC;exact (Array.getElem?_eq_some_iff.1 a').1
 | hv src since seen last=>rw [aG] at ag;obtain ⟨dS,m,a,e,_,_,a',_⟩:=ag;rw [e] at aC;cases aC;exact (Array.getElem?_eq_some_iff.1 a').1
def oz:List b1→Option (List (List UInt8))
 | []=>some []
 | [m]=>match m.k with
   | .str s=>some [s]
   | _=>none
 | _=>none
def yP:List (List UInt8)→Bool
 | []=>true
 | x::l=>Nat.ble x.length 1000000&&yP l
def oO (l:List (List UInt8)):List V:=l.map V.str
noncomputable def P' (g:FuncId) (ca:aO) (h:af):aV:=
 match h.get ca with
 | .cells n cs 0 _=>bif Nat.blt 0 n then (match T.get .bad (ay 0) cs with
   | .map b=>(match h.get b with
     | .mp es clock=>(match oz es with
       | some aI=>bif lA clock 0 es&&yP aI then (match aI with
          | []=>.val .b4 h
          | x::l=>(match hf h (oO (x::l)) 1 false with
            | some ab=>.val (.dV (ay h.next) 0 (x::l).length 0) ab
            | none=>.fail)) else .fail
       | none=>.fail)
     | _=>.fail)
   | _=>.fail) else .fail
 | _=>.fail
noncomputable def Ih (g:FuncId):tL:=
 ⟨fun args h=>match args with
   | [.func f [.ptr ca 0]]=>bif Nat.beq f g then P' g ca h else .fail
   | _=>.fail⟩
theorem abK:∀{es:List b1} {aI:List (List UInt8)},oz es=some aI→aI.length=es.length∧aI.length≤1
 | [],aI,h=>by simp only [oz,Option.some.injEq] at h;subst h;exact ⟨rfl,by simp⟩
 | [m],aI,h=>by
   simp only [oz] at h
   split at h
   · simp only [Option.some.injEq] at h;subst h;exact ⟨rfl,by simp⟩
   · cases h
 | _::_::_,aI,h=>by simp [oz] at h
theorem abL {E:Env}:∀{es:List b1} {aI:List (List UInt8)} {l:List MapEntry},oz es=some aI→du E es l→l.map (·.key)=aI.map encStr∧l.map (·.born)=es.map (·.born)
 | [],aI,l,h,aH=>by
   simp only [oz,Option.some.injEq] at h
   simp only [du] at aH
   subst h aH
   exact ⟨rfl,rfl⟩
 | [m],aI,l,h,aH=>by
   simp only [du] at aH
   obtain ⟨e,hH,rfl,aa,ae,aF,rfl⟩:=aH
   simp only [oz] at h
   split at h
   · rename_i n aA
     simp only [Option.some.injEq] at h
     subst h
     rw [aA] at aa
     simp only [Rel] at aa
     simp only [List.map_cons,List.map_nil,aa,aF]
     exact ⟨by first | rfl | trivial,by first | rfl | trivial⟩
   · cases h
 | _::_::_,aI,l,h,aH=>by simp [oz] at h
theorem QG:∀{l:List (List UInt8)},yP l=true→∀x ∈ l,x.length≤1000000
 | [],_,x,ak=>by cases ak
 | y::l,h,x,ak=>by
   simp only [yP,Bool.and_eq_true,Nat.ble_eq] at h
   rcases List.mem_cons.1 ak with rfl | ak
   · exact h.1
   · exact QG h.2 x ak
theorem P1 {α:Type} {l m:List α} (h:m.Perm l) (ai:l.length≤1):m=l:=by
 match l,ai with
 | [],_=>exact h.eq_nil
 | [x],_=>exact List.perm_singleton.1 h
theorem afM {α:Type} (le:α→α→Bool) {l:List α} (ai:l.length≤1):l.mergeSort le=l:=P1 (List.mergeSort_perm l le) ai
def C_ (P:Program) (f g:FuncId) (bV:TypeId):Prop:=
 ∀(rH b Hk:Nat) (qo:DataW Unit) (R:Value→Option (DataW Unit × List MemPlace)) (w:World),rH<w.heap.size→w.cell? ⟨rH,0,none⟩=some (.map (some b))→w.ownsMap P bV R b Hk qo→Maps.size qo≤maxLen→Maps.size qo * 16≤140737488355328→
  Calls P f #[.func (.func g) #[] #[.pointer (some ⟨rH,0,none⟩)]] w fun e aj=>∃(v:Value) (ez:List (List UInt8)),e=.returned v∧ez.Perm (strKeys qo)∧
   aj.ownsRow w.heap.size bV 1 v ez.length ((ez.mergeSort (fun x y=>decide (x≤y))).map encStr)∧(v=.slice none 0 0↔ez=[])∧Below w.heap.size w aj
theorem Ip (E:Env):∀l:List (List UInt8),a8 E (oO l) (l.map encStr)
 | []=>rfl
 | x::l=>by
   simp only [oO,List.map_cons,a8]
   exact ⟨_,_,rfl,by simp only [Rel],Ip E l⟩
theorem af7 {P:Program} {f g:FuncId} {bV:TypeId} (uK:g≠cR) (kn:P.underlying bV=some .string) (C:C_ P f g bV) {args:List V} {h ab:af} {v:V} (he:(Ih g).run args h=.val v ab)
 (au:Fr) (E:Env) (w:World) (xs:List Value) (ak:a8 E args xs) (s:a1 au E h w):
 Calls P f xs.toArray w fun e aj=>∃ar x,e=.returned x∧E.le ar∧Rel ar v x∧a1 au ar ab aj:=by
 match args,he,ak with
 | [.func pk [.ptr ca 0]],he,ak=>
   simp only [Ih] at he
   cases sr:Nat.beq pk g with
   | false=>rw [sr] at he;cases he
   | true=>
     rw [sr] at he
     simp only [cond_true] at he
     have FE:pk=g:=Nat.eq_of_beq_eq_true sr
     subst FE
     simp only [a8] at ak
     obtain ⟨y,_,rfl,a6,rfl⟩:=ak
     simp only [Rel] at a6
     obtain ⟨_,a,rfl,q,_,bn,aC,rfl⟩ | ⟨GB,_⟩:=a6
     rotate_left
     · exact absurd GB uK
     obtain ⟨p,ah,rfl⟩:=aC
     have Fi:a=#[.pointer (some ⟨p.a_,p.base+0,none⟩)]:=by
      rw [←Array.toList_inj,bn]
     subst Fi
     unfold P' at he
     split at he
     · rename_i n cs st ga
       have jH:=s.base ca p n cs st ga ah
       have hZ:=s.at ah
       rw [ga] at hZ
       obtain ⟨_,p',c,el,bL,aN,_,oh,_,_,_,xd⟩:=hZ
       rw [ah] at aN;cases aN
       cases aZ:Nat.blt 0 n with
       | false=>rw [aZ] at he;cases he
       | true=>
         rw [aZ] at he
         simp only [cond_true] at he
         rw [Nat.blt_eq] at aZ
         split at he
         · rename_i b lI
           have sh:0<c.size:=by have:=xd.1;omega
           have hc:=xd.2 0 c[0] aZ (by rw [jH];exact Array.getElem?_eq_getElem sh)
           rw [lI] at hc
           simp only [Rel] at hc
           obtain ⟨iP,sF,pw⟩:=hc
           split at he
           · rename_i es clock kX
             have xu:=s.at sF
             rw [kX] at xu
             obtain ⟨aeH,am,aY,_,F1,pE⟩:=xu
             rw [sF] at aY;cases aY
             cases jh:oz es with
             | none=>rw [jh] at he;cases he
             | some aI=>
               rw [jh] at he
               simp only at he
               cases pA:(lA clock 0 es&&yP aI) with
               | false=>rw [pA] at he;cases he
               | true=>
                 rw [pA] at he
                 simp only [cond_true] at he
                 simp only [Bool.and_eq_true] at pA
                 obtain ⟨g2,g3⟩:=pA
                 obtain ⟨cb,cB⟩:=abL jh pE
                 obtain ⟨pB,uL⟩:=abK jh
                 have sg:am.size=aI.length:=by
                  have:=congrArg List.length cb
                  simpa using this
                 obtain ⟨b7,b_⟩:=Dw g2
                 have pD:maxLen=9223372036854775807:=by decide
                 have xL:MapKept.Stamped am clock:=by
                  refine ⟨fun x ak=>?_,by rw [cB];exact b_,by
                   rw [cb]
                   match aI,uL with
                   | [],_=>exact List.nodup_nil
                   | [x],_=>exact List.nodup_cons.2 ⟨by simp,List.nodup_nil⟩⟩
                  have:x.born ∈ es.map (·.born):=by rw [←cB];exact List.mem_map_of_mem ak
                  exact (b7 _ this).2
                 have xo:∀x ∈ am.toList,∃n ∈ aI,x.key=encStr n:=by
                  intro x ak
                  have:x.key ∈ am.toList.map (·.key):=List.mem_map_of_mem ak
                  rw [cb] at this
                  obtain ⟨n,aZ,e⟩:=List.mem_map.1 this
                  exact ⟨n,aZ,e.symm⟩
                 have pL:∀x ∈ am.toList,∃n,x.key=encStr n∧WideElems.rd P bV (fun _=>some ((.nil:DataW Unit),[])) x=some (.string n,.nil):=by
                  intro x ak
                  obtain ⟨n,aZ,e⟩:=xo x ak
                  refine ⟨n,e,?_⟩
                  unfold WideElems.rd
                  rw [e,show encStr n=.string ⟨⟨n⟩⟩ from rfl,WideMaps.keyOf_string_mk kn (by show n.length≤maxLen;have:=QG g3 n aZ;omega)]
                  rfl
                 have xh:WideElems.Fit P bV (fun _=>some ((.nil:DataW Unit),[])) am clock:=⟨by rw [sg,pB,pD];omega,xL,fun x ak=>by obtain ⟨n,_,e⟩:=pL x ak;exact ⟨_,e⟩⟩
                 have fq:w.ownsMap P bV (fun _=>some ((.nil:DataW Unit),[])) iP.a_ am.size (.map ((am.toList.map (WideElems.rg P bV (fun _=>some ((.nil:DataW Unit),[])))).foldr DataW.insert [])):=⟨am,clock,F1,xh,Nat.le_refl _,rfl⟩
                 have xp:(am.toList.map (WideElems.rg P bV (fun _=>some ((.nil:DataW Unit),[])))).map (fun p=>(match p.1 with | .string b=>b | _=>[]))=aI:=by
                  have bh:∀(l:List MapEntry) (fX:List (List UInt8)),(∀x ∈ l,∃n,x.key=encStr n∧WideElems.rd P bV (fun _=>some ((.nil:DataW Unit),[])) x=some (.string n,.nil))→l.map (·.key)=fX.map encStr→(l.map (WideElems.rg P bV (fun _=>some ((.nil:DataW Unit),[])))).map (fun p=>(match p.1 with | .string b=>b | _=>[]))=fX:=by
                   intro l
                   induction l with
                   | nil=>
                     intro fX _ e
                     cases fX with
                     | nil=>rfl
                     | cons z fX=>simp at e
                   | cons x l bf=>
                     intro fX dm e
                     cases fX with
                     | nil=>simp at e
                     | cons z fX=>
                       simp only [List.map_cons,List.cons.injEq] at e
                       obtain ⟨n,aN,aY⟩:=dm x (List.mem_cons_self ..)
                       have GD:z=n:=by
                        have:=e.1.symm.trans aN
                        exact encStr_inj this
                       rw [List.map_cons,List.map_cons,bf fX (fun y a6=>dm y (List.mem_cons_of_mem _ a6)) e.2]
                       unfold WideElems.rg
                       rw [aY,GD]
                       rfl
                  exact bh am.toList aI pL cb
                 have mW:(strKeys (.map ((am.toList.map (WideElems.rg P bV (fun _=>some ((.nil:DataW Unit),[])))).foldr DataW.insert []):DataW Unit)).Perm aI:=by
                  have:=(WideShapes.sorted_perm (am.toList.map (WideElems.rg P bV (fun _=>some ((.nil:DataW Unit),[]))))).map (fun p=>(match p.1 with | .string b=>b | _=>[]))
                  rw [xp] at this
                  exact this
                 have b5:Maps.size (.map ((am.toList.map (WideElems.rg P bV (fun _=>some ((.nil:DataW Unit),[])))).foldr DataW.insert []):DataW Unit)=aI.length:=by
                  rw [Maps.size_eq,length_sorted,List.length_map,Array.length_toList,sg]
                 have aP:=(Array.getElem?_eq_some_iff.1 oh).1
                 have Fq:w.cell? ⟨p.a_,0,none⟩=some (.map (some iP.a_)):=by
                  simp only [World.cell?,oh]
                  rw [←pw]
                  exact Array.getElem?_eq_getElem sh
                 have call:=C p.a_ iP.a_ am.size _ _ w aP Fq fq (by rw [b5,pB,pD];omega) (by rw [b5,pB];omega)
                 rw [show p.base+0=0 from by rw [jH]]
                 refine call.mono fun e aj q=>?_
                 obtain ⟨v0,ez,rfl,aq,av,aK,bD⟩:=q
                 have e0:ez.Perm aI:=aq.trans mW
                 have sM:=P1 e0 uL
                 rw [sM,afM _ uL] at av
                 have xI:ez.length=aI.length:=by rw [sM]
                 rw [sM] at aK
                 clear sM e0 mW xp call xh fq pL xo xL cb jh b5 sg pB
                 cases aI with
                 | nil=>
                   have:([]:List (List UInt8))=[]:=rfl
                   cases he
                   rw [aK.2 this]
                   exact ⟨E,_,rfl,fun _ _ q=>q,by simp only [Rel],s.below bD⟩
                 | cons x l=>
                   simp only at he
                   cases km:hf h (oO (x::l)) 1 false with
                   | none=>rw [km] at he;cases he
                   | some aa=>
                     rw [km] at he
                     simp only [aV.val.injEq] at he
                     obtain ⟨rfl,rfl⟩:=he
                     obtain ⟨bz,bZ⟩:=av
                     rcases bZ with ⟨_,bZ⟩ | ⟨mU,cap,cur,rfl,bZ,b6,eX,dv,dZ,fj⟩
                     · simp at bZ
                     · unfold hf at km
                       obtain ⟨ao,km⟩:=dL km
                       simp only [Bool.and_eq_true,Nat.ble_eq] at ao
                       simp only [Option.some.injEq] at km
                       subst km
                       have dj:E.put (ay h.next) ⟨mU,0,cap⟩ (ay h.next)=some ⟨mU,0,cap⟩:=by unfold Env.put;rw [if_pos rfl]
                       have hle:E.le (E.put (ay h.next) ⟨mU,0,cap⟩):=Env.jn (s.fresh h.next (Nat.le_refl _))
                       refine ⟨_,_,rfl,hle,?_,s.add (p:=⟨mU,0,cap⟩) bD.size (fun j bI _=>bD.block j bI) (Nat.le_trans s.frame.size bZ) (fun bC dS fJ lK dA=>?_) bD.os bD.tape bD.output (fun _ _ _ e=>by injection e with _ _ cz;omega) ?_⟩
                       · simp only [Rel]
                         exact ⟨_,dj,by simp only [Nat.zero_add];omega,by simp only [Nat.add_zero,Nat.sub_zero]⟩
                       · have:=OH s fJ lK
                         simp only at dA
                         omega
                       · have gb:=w5 (a8.mono hle _ _ (Ip E (x::l))) ao.1 (cur.toList.drop ((x::l).length * 1)).toArray
                         have Fs:((x::l).map encStr).toArray++(cur.toList.drop ((x::l).length * 1)).toArray=cur:=by
                          rw [←fj,←Array.toList_inj]
                          simp
                         rw [Fs] at gb
                         exact ⟨ao.1,⟨mU,0,cap⟩,cur,bV,(0,0),dj,Nat.le_trans s.frame.size bZ,b6,.inr (Nat.le_refl _),fun _=>rfl,fun _=>by simp only;omega,gb⟩
           · cases he
         · cases he
     · cases he
end Go.Proofs.YtkehcalakofigaaGreatDoor.aS
