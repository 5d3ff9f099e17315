/- The abstract machine and its walks (a verified interpreter of the model's code: plain definitions and lemmas, no condition). Printed by a program from longer texts: names made short. -/
import Derived.Test.YthemdhlheglhoaaGreatDoorM2
import Derived.Scope
import Derived.RangeFuncRecord
set_option linter.unusedSectionVars false
set_option linter.unusedSimpArgs false
set_option linter.unusedVariables false
namespace Go.Proofs.YthemdhlheglhoaaGreatDoor.a6
variable [Lay]
open Go Go.RowKit
theorem yJ {α:Type} (p q:α→Bool):∀(l:List α),(∀x ∈ l,q x=true→p x=true)→(∃x ∈ l,p x=true∧q x=false)→l.countP q<l.countP p
 | [],_,h=>by obtain ⟨x,al,_⟩:=h;simp at al
 | a::l,aa,ae=>by
   have hle:l.countP q≤l.countP p:=List.countP_mono_left fun x al=>aa x (by simp [al])
   obtain ⟨x,al,ag,az⟩:=ae
   simp only [List.mem_cons] at al
   rcases al with rfl | al
   · rw [List.countP_cons,List.countP_cons,ag,az]
     simp
     omega
   · have bh:=yJ p q l (fun y aZ=>aa y (by simp [aZ])) ⟨x,al,ag,az⟩
     have br:=aa a (by simp)
     rw [List.countP_cons,List.countP_cons]
     cases XG:q a with
     | true=>rw [br XG];simp;omega
     | false=>simp;omega
theorem td (e:Edge):Region.binds .any e=rf e:=by
 unfold Region.binds rf
 cases e.ground<;>rfl
section
variable {P:Program}
theorem qx {order:List Nat}:∀{ba:List Nat} {k j p:Nat},xA order k ba=true→ba[j]? =some p→order[p]? =some (k+j)
 | [],_,j,p,_,h=>by simp at h
 | q::ba,k,j,p,ag,h=>by
   simp only [xA,Bool.and_eq_true] at ag
   cases j with
   | zero=>
     simp only [List.getElem?_cons_zero,Option.some.injEq] at h
     subst h
     have aa:=ag.1
     cases az:order[q]? with
     | none=>rw [az] at aa;cases aa
     | some i=>rw [az] at aa;rw [Nat.beq_eq] at aa;rw [aa];rfl
   | succ j=>
     have:=qx ag.2 (show ba[j]? =some p by simpa using h)
     rw [this]
     congr 1
     omega
theorem k4 {ops:Array Oper}:∀{order:List Nat} {p i:Nat} {o:Oper},order[p]? =some i→ops[i]? =some o→(fX ops order)[p]? =some o
 | [],p,i,o,h,_=>by simp at h
 | x::xs,p,i,o,h,aS=>by
   cases p with
   | zero=>
     simp only [List.getElem?_cons_zero,Option.some.injEq] at h
     subst h
     simp [fX,aS]
   | succ p=>simpa [fX] using k4 (show xs[p]? =some i by simpa using h) aS
theorem na {ops:Array Oper}:∀{order:List Nat},(fX ops order).length=order.length
 | []=>rfl
 | x::xs=>by simp [fX,na (order:=xs)]
structure Cert (P:Program) (an:Nat) (ops:Array Oper) (calls:Nat→dd) (es:List ec) (bk:bt) (a_:af) (cB:bt) (av:af) (dO:List Nat) (order ay:List Nat) (N M:Nat) (lit:Bool):Prop where
 len:es.length=N
 xk:N≤ops.size
 Mm:N≤M
 gS:∀k,k<ops.size→posOf ay k<ops.size∧order[posOf ay k]? =some k
 jw:∀p,p<ops.size→∃i,i<ops.size∧posOf ay i=p
 a_:bY es av 0=a_
 bk:dH es cB 0=bk
 step:∀i o,ops[i]? =some o→posOf ay i<N→∃e,es[posOf ay i]? =some e∧(cd P an ops o).run (calls i) e.r e.h=.val e.v (bY es av (posOf ay i+1))∧dH es cB (posOf ay i+1)=(eR o.dst).run e.r e.v
 kL:∀i o,ops[i]? =some o→∃cq,(d_ [] ops.toList)[i]? =some cq∧kt i o=true∧(posOf ay i<M→
  ∀k ok,ops[k]? =some ok→posOf ay k<M→∃mk,(d_ [] ops.toList)[k]? =some mk∧mf i cq (bQ ops o) o.dst k mk ok (Nat.blt (posOf ay k) (posOf ay i))=true∧(eh P o.op=true→dC P ok=true→posOf ay k<posOf ay i→e1 cq k=true∨(lit=true∧jq o=true∧jq ok=true)))
 ends:N ∈ dO
 mem:∀j o,ops[j]? =some o→dC P o=true→posOf ay j ∈ dO
 Oj:∀s ∈ dO,(s=ops.size∨(s=N∧M=N))∨∃k o,ops[k]? =some o∧dC P o=true∧s=posOf ay k
 ask:∀j o,ops[j]? =some o→looks o.op=true→eh P o.op=false→posOf ay j<N→∃e,es[posOf ay j]? =some e∧∀s ∈ dO,
  pa P (d_ [] ops.toList) ops.toList ay j (((d_ [] ops.toList)[j]?).getD 0) s=true→∃c ab,(fy P c∧fI P c)∧(cd P an ops o).run c e.r (bY es av s)=.val e.v ab
 tail:M<ops.size→M=N∧∀k ok mk,ops[k]? =some ok→N≤posOf ay k→(d_ [] ops.toList)[k]? =some mk→∀j,j<ops.size→posOf ay j<N→e1 mk j=true
 stop:N<ops.size→ops.size≤M→∃i0 hq m0,ops[i0]? =some hq∧posOf ay i0=N∧j1 hq.op=true∧(d_ [] ops.toList)[i0]? =some m0∧
  (∀k ok mk,ops[k]? =some ok→N<posOf ay k→(d_ [] ops.toList)[k]? =some mk→e1 mk i0=true)∧
  (∀k ok,ops[k]? =some ok→fv ok=true→posOf ay k<N→e1 m0 k=true)∧∃v ab,(cd P an ops hq).run (calls i0) cB av=.cp v ab
theorem Mi {o:Oper} (h:j1 o.op=true):eh P o.op=true∧fv o=false:=by
 obtain ⟨dst,op,type,pos,after,guard⟩:=o
 cases op<;>simp only [j1] at h<;>try (cases h;done)
 · rename_i c
   obtain ⟨callee,args,types⟩:=c
   cases callee<;>simp only at h<;>try (cases h;done)
   exact ⟨rfl,rfl⟩
 · exact ⟨rfl,rfl⟩
variable {an:Nat} {ops:Array Oper} {call:dd} {calls:Nat→dd} {es:List ec} {bk:bt} {a_:af} {cB:bt} {av:af} {dO:List Nat} {order ay:List Nat} {N M:Nat} {lit:Bool}
theorem Cert.sw (C:Cert P an ops calls es bk a_ cB av dO order ay N M lit) {k bp:Nat} (aa:k<ops.size) (ae:bp<ops.size) (he:posOf ay k=posOf ay bp):k=bp:=by
 have a:=(C.gS k aa).2
 have b:=(C.gS bp ae).2
 rw [he,b] at a
 cases a
 rfl
theorem Ji {ops:Array Oper} {ay:List Nat} (av:ti P ops ay=true):∀i o,ops[i]? =some o→∃cq,(d_ [] ops.toList)[i]? =some cq∧kt i o=true∧
 ∀k ok,ops[k]? =some ok→∃mk,(d_ [] ops.toList)[k]? =some mk∧mf i cq (bQ ops o) o.dst k mk ok (Nat.blt (posOf ay k) (posOf ay i))=true∧(eh P o.op=true→dC P ok=true→posOf ay k<posOf ay i→e1 cq k=true):=by
 intro i o aD
 unfold ti at av
 obtain ⟨cq,aa,ae⟩:=np av i o (by simpa using aD)
 simp only [Nat.zero_add,Bool.and_eq_true] at ae
 refine ⟨cq,aa,ae.1,fun k ok ax=>?_⟩
 obtain ⟨mk,bL,b0⟩:=np ae.2 k ok (by simpa using ax)
 simp only [Nat.zero_add,Bool.and_eq_true] at b0
 refine ⟨mk,bL,b0.1,fun aN bf aP=>?_⟩
 have fN:=b0.2
 rw [aN,bf,Bool.true_and,show Nat.blt (posOf ay k) (posOf ay i)=true from by rw [Nat.blt_eq];exact aP] at fN
 exact fN
theorem Cert.Gx (C:Cert P an ops calls es bk a_ cB av dO order ay N M lit):∀p,p≤N→∀t,t≤top→
 (∃k o e,posOf ay k<p∧ops[k]? =some o∧o.dst=some t∧es[posOf ay k]? =some e∧T.get .bad (aq t) (dH es cB p)=e.v)∨
 ((∀k o,posOf ay k<p→ops[k]? =some o→o.dst≠some t)∧T.get .bad (aq t) (dH es cB p)=T.get .bad (aq t) bk)
 | 0,_,t,aA=>.inr ⟨fun k o h=>by omega,by rw [C.bk]⟩
 | p+1,aD,t,aA=>by
   obtain ⟨i,aP,h'⟩:=C.jw p (by have:=C.xk;omega)
   have b9:ops[i]? =some ops[i]:=Array.getElem?_eq_getElem aP
   obtain ⟨e,aa,ae,aI⟩:=C.step i ops[i] b9 (by omega)
   rw [h'] at aa ae aI
   have EU:dH es cB p=e.r:=by simp [dH,aa]
   have dt:=JZ (r:=e.r) (v:=e.v) (iL ae).1 aA
   rw [aI,dt]
   by_cases a1:ops[i].dst=some t
   · rw [if_pos a1]
     exact .inl ⟨i,_,e,by omega,b9,a1,by rw [h'];exact aa,rfl⟩
   · rw [if_neg a1,←EU]
     rcases Cert.Gx C p (by omega) t aA with ⟨k,o,c0,au,aC,aM,bG,dJ⟩ | ⟨au,aC⟩
     · exact .inl ⟨k,o,c0,by omega,aC,aM,bG,dJ⟩
     · refine .inr ⟨fun k o ax aS=>?_,aC⟩
       by_cases fu:k=i
       · subst fu;rw [b9] at aS;cases aS;exact a1
       · refine au k o ?_ aS
         have lX:=(Array.getElem?_eq_some_iff.1 aS).1
         have:posOf ay k≠p:=fun e=>fu (C.sw lX aP (by rw [e,h']))
         omega
theorem Cert.Dq (C:Cert P an ops calls es bk a_ cB av dO order ay N M lit):∀p,p≤N→T.get .bad ee (dH es cB p)=T.get .bad ee bk
 | 0,_=>by rw [C.bk]
 | p+1,aD=>by
   obtain ⟨i,aP,h'⟩:=C.jw p (by have:=C.xk;omega)
   have b9:ops[i]? =some ops[i]:=Array.getElem?_eq_getElem aP
   obtain ⟨e,aa,ae,aI⟩:=C.step i ops[i] b9 (by omega)
   rw [h'] at aa ae aI
   have EU:dH es cB p=e.r:=by simp [dH,aa]
   have a1:=(iL ae).1
   rw [aI,←Cert.Dq C p (by omega),EU]
   cases WK:ops[i].dst with
   | none=>rfl
   | some d=>
     rw [WK] at a1
     simp only [eG,Bool.and_eq_true,Nat.ble_eq] at a1
     simp only [eR]
     rw [T.gP,if_neg (su a1.2)]
def nameAt (es:List ec) (av:af) (ay:List Nat) (k:Nat):aO:=aq (bY es av (posOf ay k)).next
noncomputable def vQ (es:List ec) (av:af) (ay:List Nat) (k:Nat):b1:=(bY es av (posOf ay k+1)).get (nameAt es av ay k)
def Made (es:List ec) (av:af) (ay:List Nat) (k:Nat):Prop:=(bY es av (posOf ay k+1)).next≠(bY es av (posOf ay k)).next
def il (ops:Array Oper) (es:List ec) (av:af) (ay:List Nat) (listed:Array Bool) (s k:Nat):Prop:=
 ∃o,ops[k]? =some o∧(fv o=true∧Made es av ay k)∧¬listed.getD k false=true∧posOf ay k<s
structure Holds (ar F:Fr) (es:List ec) (av:af) (ay:List Nat) (D:Nat→Prop):Prop where
 w:F.w=ar.w
 bO:∀b,(∀k,D k→nameAt es av ay k≠b)→F.dz b=ar.dz b
 new:∀k,D k→F.dz (nameAt es av ay k)=some (vQ es av ay k)∧ar.dz (nameAt es av ay k)=none
 inj:∀k bp,D k→D bp→nameAt es av ay k=nameAt es av ay bp→k=bp
theorem Holds.congr {ar F:Fr} {D Ht:Nat→Prop} (H:Holds ar F es av ay D) (h:∀k,Ht k↔D k):Holds ar F es av ay Ht:=
 ⟨H.w,fun b ah=>H.bO b fun k ax=>ah k ((h k).2 ax),fun k ax=>H.new k ((h k).1 ax),fun k bp ax eX=>H.inj k bp ((h k).1 ax) ((h bp).1 eX)⟩
theorem Holds.none {ar F:Fr} {D:Nat→Prop} (H:Holds ar F es av ay D) (h:∀k,¬D k):F=ar:=by
 have:F.dz=ar.dz:=funext fun b=>H.bO b fun k ax=>absurd ax (h k)
 cases F;cases ar
 have hw:=H.w
 simp only at this hw
 rw [this,hw]
theorem Cert.advance (C:Cert P an ops calls es bk a_ cB av dO order ay N M lit) {ar:Fr} {listed:Array Bool} {E:Env} {w:World}:∀(d q:Nat),q+d=N→(∀k o,ops[k]? =some o→fv o=true→q≤posOf ay k→¬listed.getD k false=true)→
 ∀F,Holds ar F es av ay (il ops es av ay listed q)→aY F E (bY es av q) w→
 ∃s dI,s ∈ dO∧q≤s∧s≤N∧(∀k o,ops[k]? =some o→dC P o=true→q≤posOf ay k→s≤posOf ay k)∧Holds ar dI es av ay (il ops es av ay listed s)∧aY dI E (bY es av s) w
 | 0,q,az,_,F,H,S=>by
   have:q=N:=by omega
   subst this
   exact ⟨q,F,C.ends,Nat.le_refl _,Nat.le_refl _,fun k o _ _ h=>h,H,S⟩
 | d+1,q,az,p8,F,H,S=>by
   obtain ⟨i,aP,h'⟩:=C.jw q (by have:=C.xk;omega)
   have b9:ops[i]? =some ops[i]:=Array.getElem?_eq_getElem aP
   cases kc:dC P ops[i] with
   | true=>exact ⟨q,F,by rw [←h'];exact C.mem i _ b9 kc,Nat.le_refl _,by omega,fun k o _ _ h=>h,H,S⟩
   | false=>
     obtain ⟨e,aa,ae,aI⟩:=C.step i ops[i] b9 (by omega)
     rw [h'] at aa ae
     have p5:bY es av q=e.h:=by simp [bY,aa]
     have only:∀k o,ops[k]? =some o→posOf ay k=q→k=i:=fun k o ax ag=>C.sw (Array.getElem?_eq_some_iff.1 ax).1 aP (by rw [ag,h'])
     have fin:∀dI,Holds ar dI es av ay (il ops es av ay listed (q+1))→aY dI E (bY es av (q+1)) w→
      ∃s dI,s ∈ dO∧q≤s∧s≤N∧(∀k o,ops[k]? =some o→dC P o=true→q≤posOf ay k→s≤posOf ay k)∧Holds ar dI es av ay (il ops es av ay listed s)∧aY dI E (bY es av s) w:=by
      intro dI jC yg
      obtain ⟨s,Bk,g1,g2,g3,g4,g5,g6⟩:=Cert.advance C d (q+1) (by omega) (fun k o aa ae aI=>p8 k o aa ae (by omega)) dI jC yg
      refine ⟨s,Bk,g1,by omega,g3,fun k o ax aF ag=>g4 k o ax aF ?_,g5,g6⟩
      by_cases zF:posOf ay k=q
      · have:=only k o ax zF
        subst this
        rw [b9] at ax;cases ax
        rw [kc] at aF;cases aF
      · omega
     have pass:bY es av (q+1)=e.h→(fv ops[i]=true→¬Made es av ay i)→∃s dI,s ∈ dO∧q≤s∧s≤N∧(∀k o,ops[k]? =some o→dC P o=true→q≤posOf ay k→s≤posOf ay k)∧Holds ar dI es av ay (il ops es av ay listed s)∧aY dI E (bY es av s) w:=by
      intro ua kg
      rw [←p5] at ua
      refine fin F (H.congr fun k=>⟨?_,?_⟩) (by rw [ua];exact S)
      · rintro ⟨o,au,aC,aM,bG⟩
        refine ⟨o,au,aC,aM,?_⟩
        have:posOf ay k≠q:=fun e=>by
         have:=only k o au e
         subst this
         rw [b9] at au;cases au
         exact kg aC.1 aC.2
        omega
      · rintro ⟨o,au,aC,aM,bG⟩
        exact ⟨o,au,aC,aM,by omega⟩
     cases br:fv ops[i] with
     | true=>
      rcases Je br ae with ⟨cM,bL,b0⟩ | ⟨bL,_⟩
      ·
       have aQ:=S.hold cM
       have aV:nameAt es av ay i=aq (bY es av q).next:=by unfold nameAt;rw [h']
       have ah:vQ es av ay i=cM:=by
        unfold vQ
        rw [aV,h',bL,p5,af.gO,if_pos rfl]
       rw [p5,←bL] at aQ
       have Xm:Made es av ay i:=by
        unfold Made
        rw [h',bL,p5]
        exact Nat.succ_ne_self _
       have nQ:¬listed.getD i false=true:=p8 i _ b9 br (by omega)
       have De:∀k,il ops es av ay listed (q+1) k→k=i∨il ops es av ay listed q k:=by
        rintro k ⟨o,au,aC,aM,bG⟩
        by_cases zF:posOf ay k=q
        · exact .inl (only k o au zF)
        · exact .inr ⟨o,au,aC,aM,by omega⟩
       have fresh:∀b uu,F.dz b=some uu→b≠nameAt es av ay i:=by
        intro b uu nI heq
        obtain ⟨_,_,j,w7,sg⟩:=S.nf b uu nI
        rw [heq,aV] at sg
        rw [p5] at w7 sg
        have:=eZ sg
        omega
       have Lb:∀b,b≠nameAt es av ay i→(F.hold (aq e.h.next) cM).dz b=F.dz b:=by
        intro b Kh
        rw [aV,p5] at Kh
        simp only [Fr.hold,if_neg Kh]
       have QB:(F.hold (aq e.h.next) cM).dz (nameAt es av ay i)=some cM:=by
        rw [aV,p5]
        simp only [Fr.hold,if_true]
       have ne:∀k,il ops es av ay listed q k→nameAt es av ay k≠nameAt es av ay i:=fun k ax=>fresh _ _ (H.new k ax).1
       refine fin (F.hold (aq e.h.next) cM) ⟨H.w,fun b nI=>?_,fun k ax=>?_,fun k bp ax eX he=>?_⟩ aQ
       · have rJ:b≠nameAt es av ay i:=fun e=>nI i ⟨_,b9,⟨br,Xm⟩,nQ,by omega⟩ e.symm
         rw [Lb b rJ]
         exact H.bO b fun k ax=>nI k (by obtain ⟨o,au,aC,aM,bG⟩:=ax;exact ⟨o,au,aC,aM,by omega⟩)
       · rcases De k ax with rfl | ax
         · refine ⟨by rw [QB,ah],?_⟩
           cases ag:ar.dz (nameAt es av ay k) with
           | none=>rfl
           | some uu=>
             exfalso
             have:=H.bO (nameAt es av ay k) fun bp eX=>ne bp eX
             rw [ag] at this
             exact fresh _ _ this rfl
         · rw [Lb _ (ne k ax)]
           exact H.new k ax
       · rcases De k ax with rfl | ax<;>rcases De bp eX with rfl | eX
         · rfl
         · exact absurd he.symm (ne bp eX)
         · exact absurd he (ne k ax)
         · exact H.inj k bp ax eX he
      · refine pass bL fun _ hm=>hm ?_
        rw [h',bL,p5]
     | false=>
       have dp:eh P ops[i].op=false:=by
        unfold dC at kc
        rw [br] at kc
        simpa using kc
       exact pass (rn dp ae).1 fun h=>by rw [br] at h;cases h
structure nr (P:Program) (ar:Fr) (an:Nat) (ops:Array Oper) (es:List ec) (bk:bt) (av:af) (dO ay:List Nat) (fR:Env) (N:Nat) (D:List Deferred) (listed:Array Bool) (a:Act) (w:World):Prop where
 o_:listed.size=ops.size
 size:a.tmps.size=an
 defers:a.defers=D
 pN:∀k,listed.getD k false=true→posOf ay k<N
 down:nt ops fun k=>listed.getD k false=true
 main:∃E s F,fR.le E∧s ∈ dO∧s≤N∧(∀k o,ops[k]? =some o→dC P o=true→(listed.getD k false=true↔posOf ay k<s))∧
  (∀k o,ops[k]? =some o→fv o=true→listed.getD k false=true→posOf ay k<s)∧Holds ar F es av ay (il ops es av ay listed s)∧aY F E (bY es av s) w∧
  ∀t,t≤top→(∃k o e,listed.getD k false=true∧ops[k]? =some o∧o.dst=some t∧es[posOf ay k]? =some e∧Rel E e.v (a.tmps.getD t undef))∨
   ((∀k o,listed.getD k false=true→ops[k]? =some o→o.dst≠some t)∧Rel E (T.get .bad (aq t) bk) (a.tmps.getD t undef))
theorem pX {l:Array Bool} {i:Nat}:l.getD i false=true↔l[i]? =some true:=by
 rw [Array.getD_eq_getD_getElem?]
 cases l[i]? with
 | none=>simp
 | some b=>cases b<;>simp
theorem eU {l:Array Bool} {i k:Nat} (aD:i<l.size):(l.setIfInBounds i true).getD k false=true↔(k=i∨l.getD k false=true):=by
 rw [pX,pX,Array.getElem?_setIfInBounds]
 by_cases h:i=k
 · subst h;simp [aD]
 · have:¬k=i:=fun e=>h e.symm
   simp [h,this]
theorem yX {r:bt} {t:Nat} (aA:t≤top):∀{l:List Oper},T.get .bad (aq t) (lQ r l)=.bad∨(T.get .bad (aq t) (lQ r l)=T.get .bad (aq t) r∧∀o ∈ l,o.dst≠some t)
 | []=>.inr ⟨rfl,fun o aS=>by simp at aS⟩
 | o::os=>by
   simp only [lQ]
   cases a1:o.dst with
   | none=>
     simp only
     rcases yX (r:=r) aA (l:=os) with h | ⟨aa,ae⟩
     · exact .inl h
     · exact .inr ⟨aa,fun bU gj=>by
        rcases List.mem_cons.1 gj with rfl | gj
        · rw [a1];simp
        · exact ae bU gj⟩
   | some d=>
     simp only
     cases ah:Nat.ble d top with
     | true=>
       simp only [cond_true]
       rw [T.gP]
       by_cases rN:d=t
       · subst rN;rw [if_pos rfl];exact .inl rfl
       · rw [if_neg (fun e=>rN (eZ e))]
         rcases yX (r:=r) aA (l:=os) with h | ⟨aa,ae⟩
         · exact .inl h
         · exact .inr ⟨aa,fun bU gj=>by
            rcases List.mem_cons.1 gj with rfl | gj
            · rw [a1];simpa using rN
            · exact ae bU gj⟩
     | false=>
       simp only [cond_false]
       have rN:d≠t:=fun e=>by subst e;rw [←Nat.ble_eq] at aA;rw [aA] at ah;cases ah
       rcases yX (r:=r) aA (l:=os) with h | ⟨aa,ae⟩
       · exact .inl h
       · exact .inr ⟨aa,fun bU gj=>by
          rcases List.mem_cons.1 gj with rfl | gj
          · rw [a1];simpa using rN
          · exact ae bU gj⟩
theorem yW {r:bt}:∀{l:List Oper},T.get .bad ee (lQ r l)=T.get .bad ee r
 | []=>rfl
 | o::os=>by
   simp only [lQ]
   cases a1:o.dst with
   | none=>exact yW
   | some d=>
     simp only
     cases ah:Nat.ble d top with
     | true=>
       simp only [cond_true]
       rw [T.gP,if_neg (su (Nat.le_of_ble_eq_true ah))]
       exact yW
     | false=>exact yW
theorem Jl {rd:Option Nat} {D:List Deferred} {ar:Fr} (bx:ea P) (cw:∀i,fy P (calls i)) (c9:∀i,fI P (calls i)) (C:Cert P an ops calls es bk a_ cB av dO order ay N M lit) {fR:Env} {listed:Array Bool} {a:Act} {w:World} (I:nr P ar an ops es bk av dO ay fR N D listed a w)
 {i:Nat} (aD:i ∈ Region.ready .any ops listed) (W7:posOf ay i<M) (rU:lit=true→∀o k ok,ops[i]? =some o→jq o=true→ops[k]? =some ok→jq ok=true→posOf ay k<posOf ay i→listed.getD k false=true) {Q:Exit→Act→World→Prop} {K:Act→World→Prop} (di:∀bg aj,nr P ar an ops es bk av dO ay fR N D (listed.setIfInBounds i true) bg aj→K bg aj)
 (cK:∀ao bg aj x v ab,fR.le ao→N<ops.size→ops.size≤M→(∃i0 hq,ops[i0]? =some hq∧posOf ay i0=N∧(cd P an ops hq).run (calls i0) cB av=.cp v ab)→RegRel0 ao an (lQ bk ops.toList) bg→bg.defers=D→Rel ao v x→aY ar ao ab aj→Q (.panic (nc x)) bg aj):wpOpIn (b8 rd) 0 P ops Q i K a w:=by
 rw [mem_ready] at aD
 obtain ⟨E,s,F,kb,aQ,zJ,ke,dL,iy,nS,r6⟩:=I.main
 obtain ⟨p8,o,b9,rO⟩:=aD
 have ft:i<ops.size:=(Array.getElem?_eq_some_iff.1 b9).1
 have p_:¬listed.getD i false=true:=by
  rw [pX]
  intro h
  rw [Array.getD_eq_getD_getElem?,h] at p8
  simp at p8
 have KC:=xf I.down ops.toList [] (fun j=>by simp) (fun k m j ax=>by simp at ax)
 have tD:nt ops fun k=>listed.getD k false=true∨k=i:=by
  intro k ok e ax bu he ah
  rcases ax with ax | rfl
  · exact .inl (I.down k ok e ax bu he ah)
  · rw [b9] at bu;cases bu
    exact .inl (rO e (Array.mem_toList_iff.1 he) (by rw [td];exact ah))
 have Xl:=xf tD ops.toList [] (fun j=>by simp) (fun k m j ax=>by simp at ax)
 obtain ⟨cq,kf,g',zE⟩:=C.kL i o b9
 have zE:=zE W7
 have DV:=C.Mm
 have wk:∀k,k≠i→e1 cq k=true→listed.getD k false=true:=by
  intro k ax ah
  rcases Xl i cq k kf ah (.inr rfl) with h | h
  · exact h
  · exact absurd h ax
 have hD:=(C.gS i ft).1
 have XA:posOf ay i≤N:=by
  rcases Nat.lt_or_ge N (posOf ay i) with W3 | hle
  · exfalso
    have zk:ops.size≤M:=by
     rcases Nat.lt_or_ge M ops.size with h | h
     · have:=(C.tail h).1;omega
     · exact h
    obtain ⟨i0,hq,m0,cj,z2,z3,z4,z5,_⟩:=C.stop (by omega) zk
    have ah:=z5 i o cq b9 W3 kf
    have aa:=wk i0 (fun e=>by subst e;omega) ah
    have:=I.pN i0 aa
    omega
  · exact hle
 have uniq:∀(k bp:Nat) (ok iX:Oper) (t:Nat),ops[k]? =some ok→ops[bp]? =some iX→posOf ay k<M→posOf ay bp<M→ok.dst=some t→iX.dst=some t→k=bp:=by
  intro k bp ok iX t aa ae ct cf aI bo
  obtain ⟨mk,_,_,ag⟩:=C.kL k ok aa
  obtain ⟨mk',_,gR,_⟩:=ag ct bp iX ae cf
  unfold mf at gR
  rw [gM] at gR
  by_cases iz:k=bp
  · exact iz
  · rw [if_neg iz,bo,aI] at gR
    simp at gR
 have Nx:i_ (bQ ops o)=true→∀t ∈ bQ ops o,Rel E (T.get .bad (aq t) (dH es cB (posOf ay i))) (a.tmps.getD t undef):=by
  intro mU t aA
  have ue:t≤top:=by
   have:=List.all_eq_true.1 mU t aA
   exact Nat.le_of_ble_eq_true this
  have MI:∀(k:Nat) (ok:Oper),k≠i→posOf ay k<M→ops[k]? =some ok→ok.dst=some t→∃mk,(d_ [] ops.toList)[k]? =some mk∧(posOf ay k<posOf ay i→e1 cq k=true)∧(¬posOf ay k<posOf ay i→e1 mk i=true):=by
   intro k ok ax Em bu a1
   obtain ⟨mk,au,aC,_⟩:=zE k ok bu Em
   refine ⟨mk,au,?_⟩
   unfold mf at aC
   rw [gM,if_neg (fun e=>ax e.symm),a1] at aC
   simp only [Bool.and_eq_true] at aC
   have aM:=aC.1
   rw [show (bQ ops o).contains t=true from by simpa using aA] at aM
   simp only [cond_true] at aM
   refine ⟨fun aP=>?_,fun h8=>?_⟩
   · rw [show Nat.blt (posOf ay k) (posOf ay i)=true from by rw [Nat.blt_eq];exact aP] at aM
     exact aM
   · rw [show Nat.blt (posOf ay k) (posOf ay i)=false from by rw [←Bool.not_eq_true,Nat.blt_eq];exact h8] at aM
     exact aM
  rcases C.Gx (posOf ay i) XA t ue with ⟨k,ok,yS,au,aC,aM,bG,dJ⟩ | ⟨au,aC⟩
  · obtain ⟨mk,_,dS,_⟩:=MI k ok (fun e=>by subst e;omega) (by omega) aC aM
    have r0:=wk k (fun e=>by subst e;omega) (dS au)
    rcases r6 t ue with ⟨bp,iX,Dv,bW,b3,dv,iF,nb⟩ | ⟨bW,_⟩
    · have:=uniq k bp ok iX t aC b3 (by omega) (by have:=I.pN bp bW;omega) aM dv
      subst this
      rw [bG] at iF;cases iF
      rw [dJ];exact nb
    · exact absurd aM (bW k ok r0 aC)
  · rcases r6 t ue with ⟨bp,iX,Dv,bW,b3,dv,iF,nb⟩ | ⟨_,b3⟩
    · have fu:bp≠i:=fun e=>p_ (e ▸ bW)
      obtain ⟨mk,m1,_,eo⟩:=MI bp iX fu (by have:=I.pN bp bW;omega) b3 dv
      by_cases aP:posOf ay bp<posOf ay i
      · exact absurd dv (au bp iX aP b3)
      · exact absurd (KC bp mk i m1 (eo aP) bW) p_
    · rw [aC];exact b3
 have level:eh P o.op=true→s≤posOf ay i→s=posOf ay i∧fv o=false:=by
  intro jP hle
  rcases C.Oj s aQ with (h | ⟨h,zj⟩) | ⟨k,ok,bL,b0,fN⟩
  · omega
  · omega
  · have KI:¬listed.getD k false=true:=fun h=>by have:=(ke k ok bL b0).1 h;omega
    have lX:=(Array.getElem?_eq_some_iff.1 bL).1
    by_cases fu:k=i
    · subst fu
      rw [b9] at bL;cases bL
      refine ⟨fN,?_⟩
      unfold dC at b0
      simpa [jP] using b0
    · have aP:posOf ay k<posOf ay i:=by
       have:posOf ay k≠posOf ay i:=fun e=>fu (C.sw lX ft e)
       omega
      obtain ⟨mk,_,_,aM⟩:=zE k ok bL (by omega)
      rcases aM jP b0 aP with h | ⟨g1,g2,g3⟩
      · exact absurd (wk k fu h) KI
      · exact absurd (rU g1 o k ok b9 g2 bL g3 aP) KI
 rcases Nat.lt_or_ge (posOf ay i) N with Ey | af6
 case inr=>
  have hP:posOf ay i=N:=by omega
  have zk:ops.size≤M:=by
   rcases Nat.lt_or_ge M ops.size with h | h
   · have:=(C.tail h).1;omega
   · exact h
  obtain ⟨i0,hq,m0,cj,z2,z3,z4,z5,afo,v,ab,Hj⟩:=C.stop (by omega) zk
  have W9:i0=i:=C.sw (Array.getElem?_eq_some_iff.1 cj).1 ft (by rw [z2,hP])
  subst W9
  rw [b9] at cj;cases cj
  rw [kf] at z4;cases z4
  obtain ⟨jP,Xq⟩:=Mi z3
  have tK:dC P o=true:=by unfold dC;rw [jP,Xq];rfl
  have E1:s≤posOf ay i0:=by
   rcases Nat.lt_or_ge (posOf ay i0) s with h | h
   · exact absurd ((ke i0 o b9 tK).2 h) p_
   · exact h
  have ub:=(level jP E1).1
  have gQ:F=ar:=iy.none fun k ax=>by
   obtain ⟨ok,au,aC,aM,bG⟩:=ax
   have fu:k≠i0:=fun e=>by subst e;omega
   exact aM (wk k fu (afo k ok au aC.1 (by omega)))
  subst gQ
  have cT:es[N]? =none:=List.getElem?_eq_none (by rw [C.len];exact Nat.le_refl _)
  have iT:=Nx (Jc Hj).2
  rw [hP] at iT
  simp only [dH,cT] at iT
  rw [ub,hP] at nS
  simp only [bY,cT] at nS
  refine UH bx (cw i0) (c9 i0) b9 Hj z3 I.size iT nS fun ao x aj au aC aM=>cK ao a aj x v ab (kb.trans au) (by omega) zk ⟨i0,o,b9,hP,Hj⟩ ⟨I.size,fun t aA=>?_⟩ I.defers aC aM
  rcases yX (r:=bk) aA (l:=ops.toList) with h | ⟨aa,ae⟩
  · rw [h];simp [Rel]
  · rw [aa]
    rcases r6 t aA with ⟨k,ok,yS,bW,b3,dv,iF,nb⟩ | ⟨bW,b3⟩
    · exact absurd dv (ae ok (by rw [←Array.getElem?_toList] at b3;exact List.mem_of_getElem? b3))
    · exact Rel.mono au _ _ b3
 obtain ⟨e,lU,cA,agd⟩:=C.step i o b9 Ey
 have fU:=iL cA
 have eM:dH es cB (posOf ay i)=e.r:=by simp [dH,lU]
 have h9:bY es av (posOf ay i)=e.h:=by simp [bY,lU]
 have reads:=Nx fU.2
 rw [eM] at reads
 have fa:i<listed.size:=by rw [I.o_];exact ft
 have after:∀(f':Nat) (dI:Fr) (ao:Env) (x:Value) (aj:World),f' ∈ dO→f'≤N→(∀k ok,ops[k]? =some ok→dC P ok=true→((k=i∨listed.getD k false=true)↔posOf ay k<f'))→
  (∀k ok,ops[k]? =some ok→fv ok=true→(k=i∨listed.getD k false=true)→posOf ay k<f')→
  Holds ar dI es av ay (il ops es av ay (listed.setIfInBounds i true) f')→E.le ao→Rel ao e.v x→aY dI ao (bY es av f') aj→
  nr P ar an ops es bk av dO ay fR N D (listed.setIfInBounds i true) (a.put o.dst x) aj:=by
  intro f' dI ao x aj gA XV fC Wm W4 hle al XT
  refine ⟨by simp [I.o_],by cases h:o.dst<;>simp [Act.put,I.size],by cases h:o.dst<;>simp [Act.put,I.defers],fun k ax=>by
   rcases (eU fa).1 ax with rfl | ax
   · exact Ey
   · exact I.pN k ax,?_,ao,f',dI,kb.trans hle,gA,XV,fun k ok aa ae=>by rw [eU fa];exact fC k ok aa ae,
   fun k ok aa ae aI=>Wm k ok aa ae ((eU fa).1 aI),W4,XT,fun t aA=>?_⟩
  · intro k ok c0 ax bu d' ah
    rw [eU fa] at ax ⊢
    rcases tD k ok c0 ax.symm bu d' ah with h | h
    · exact .inr h
    · exact .inl h
  · by_cases a1:o.dst=some t
    · refine .inl ⟨i,o,e,by rw [eU fa];exact .inl rfl,b9,a1,lU,?_⟩
      have aP:t<a.tmps.size:=by
       have:=fU.1
       rw [a1] at this
       simp only [eG,Bool.and_eq_true,Nat.blt_eq] at this
       rw [I.size];exact this.1
      rw [a1]
      simp only [Act.put]
      rw [Array.getD_eq_getD_getElem?,Array.getElem?_setIfInBounds,if_pos rfl,if_pos aP]
      exact al
    · have dt:(a.put o.dst x).tmps.getD t undef=a.tmps.getD t undef:=by
       cases Xv:o.dst with
       | none=>rfl
       | some d=>
         simp only [Act.put]
         rw [Array.getD_eq_getD_getElem?,Array.getD_eq_getD_getElem?,Array.getElem?_setIfInBounds,if_neg (fun e=>a1 (by rw [Xv,e]))]
      rw [dt]
      rcases r6 t aA with ⟨k,ok,yS,bW,b3,dv,iF,nb⟩ | ⟨bW,b3⟩
      · exact .inl ⟨k,ok,yS,by rw [eU fa];exact .inr bW,b3,dv,iF,Rel.mono hle _ _ nb⟩
      · refine .inr ⟨fun k ok ax bu=>?_,Rel.mono hle _ _ b3⟩
        rw [eU fa] at ax
        rcases ax with rfl | ax
        · rw [b9] at bu;cases bu;exact a1
        · exact bW k ok ax bu
 have D_:¬(fv o=true∧Made es av ay i)→∀f' k,il ops es av ay (listed.setIfInBounds i true) f' k↔il ops es av ay listed f' k:=by
  intro br f' k
  constructor
  · rintro ⟨ok,au,aC,aM,bG⟩
    exact ⟨ok,au,aC,fun h=>aM ((eU fa).2 (.inr h)),bG⟩
  · rintro ⟨ok,au,aC,aM,bG⟩
    refine ⟨ok,au,aC,fun h=>?_,bG⟩
    rcases (eU fa).1 h with rfl | h
    · rw [b9] at au;cases au;exact br aC
    · exact aM h
 cases jP:eh P o.op with
 | true=>
   cases br:fv o with
   | true=>
     have aP:posOf ay i<s:=by
      rcases Nat.lt_or_ge (posOf ay i) s with h | h
      · exact h
      · have:=(level jP h).2
        rw [br] at this;cases this
     by_cases hm:Made es av ay i
     case neg=>
      have EY:(cd P an ops o).run (calls i) e.r (bY es av s)=.val e.v (bY es av s):=by
       rcases Je br cA with ⟨cM,bL,_⟩ | ⟨_,bL⟩
       · exact absurd (show Made es av ay i from by unfold Made;rw [bL,h9];exact Nat.succ_ne_self _) hm
       · exact bL _
      refine ny bx (cw i) (c9 i) b9 EY I.size reads nS fun ao x aj au aC aM=>di _ _ (after s F ao x aj aQ zJ (fun k ok bu hN=>?_) (fun k ok bu mL ax=>?_) (iy.congr fun k=>D_ (fun h=>hm h.2) s k) au aC aM)
      · constructor
        · rintro (rfl | h)
          · rw [b9] at bu;cases bu
            unfold dC at hN
            rw [br] at hN
            simp at hN
          · exact (ke k ok bu hN).1 h
        · intro h
          exact .inr ((ke k ok bu hN).2 h)
      · rcases ax with rfl | ax
        · exact aP
        · exact dL k ok bu mL ax
     have jm:il ops es av ay listed s i:=⟨o,b9,⟨br,hm⟩,p_,aP⟩
     have EA:(bY es av (posOf ay i+1)).next≠e.h.next:=by rw [←h9];exact hm
     have kg:nameAt es av ay i=aq e.h.next:=by unfold nameAt;rw [h9]
     have kj:=(iy.new i jm).1
     have uh:=(iy.new i jm).2
     have iw:vQ es av ay i=(bY es av (posOf ay i+1)).get (aq e.h.next):=by unfold vQ;rw [kg]
     rw [kg,iw] at kj
     refine UF b9 br cA I.size reads nS EA kj fun ao x aj au aC aM=>di _ _ (after s (F.free (aq e.h.next)) ao x aj aQ zJ (fun k ok bu hN=>?_) (fun k ok bu mL ax=>?_) ?_ au aC aM)
     · constructor
       · rintro (rfl | h)
         · rw [b9] at bu;cases bu
           unfold dC at hN
           rw [br] at hN
           simp at hN
         · exact (ke k ok bu hN).1 h
       · intro h
         exact .inr ((ke k ok bu hN).2 h)
     · rcases ax with rfl | ax
       · exact aP
       · exact dL k ok bu mL ax
     · have sub:∀k,il ops es av ay (listed.setIfInBounds i true) s k→il ops es av ay listed s k∧k≠i:=by
        rintro k ⟨ok,au,aC,aM,bG⟩
        refine ⟨⟨ok,au,aC,fun h=>aM ((eU fa).2 (.inr h)),bG⟩,fun e=>aM ((eU fa).2 (.inl e))⟩
       refine ⟨iy.w,fun b ah=>?_,fun k ax=>?_,fun k bp ax eX=>iy.inj k bp (sub k ax).1 (sub bp eX).1⟩
       · by_cases rJ:b=aq e.h.next
         · subst rJ
           simp only [Fr.free,if_true]
           rw [←kg,uh]
         · simp only [Fr.free,if_neg rJ]
           refine iy.bO b fun k ax=>?_
           by_cases fu:k=i
           · subst fu;rw [kg];exact fun e=>rJ e.symm
           · obtain ⟨ok,au,aC,aM,bG⟩:=ax
             refine ah k ⟨ok,au,aC,fun h=>?_,bG⟩
             rcases (eU fa).1 h with h | h
             · exact fu h
             · exact aM h
       · obtain ⟨Kw,fu⟩:=sub k ax
         have dp:nameAt es av ay k≠aq e.h.next:=fun e=>fu (iy.inj k i Kw jm (by rw [e,kg]))
         simp only [Fr.free,if_neg dp]
         exact iy.new k Kw
   | false=>
     have tK:dC P o=true:=by unfold dC;rw [jP,br];rfl
     have E1:s≤posOf ay i:=by
      rcases Nat.lt_or_ge (posOf ay i) s with h | h
      · exact absurd ((ke i o b9 tK).2 h) p_
      · exact h
     have ub:=(level jP E1).1
     rw [←h9,←ub] at cA
     refine ny bx (cw i) (c9 i) b9 cA I.size reads nS fun ao x aj au aC aM=>?_
     rw [ub] at aM
     have Xj:∀k ok,ops[k]? =some ok→fv ok=true→posOf ay i+1≤posOf ay k→¬(listed.setIfInBounds i true).getD k false=true:=by
      intro k ok bu mL ag h
      rcases (eU fa).1 h with rfl | h
      · omega
      · have:=dL k ok bu mL h
        omega
     have W6:Holds ar F es av ay (il ops es av ay (listed.setIfInBounds i true) (posOf ay i+1)):=by
      refine iy.congr fun k=>?_
      rw [D_ (fun h=>by rw [br] at h;cases h.1)]
      constructor
      · rintro ⟨ok,cj,z2,z3,z4⟩
        refine ⟨ok,cj,z2,z3,?_⟩
        have lX:=(Array.getElem?_eq_some_iff.1 cj).1
        have:posOf ay k≠posOf ay i:=fun e=>by
         have:=C.sw lX ft e
         subst this
         rw [b9] at cj;cases cj
         rw [br] at z2;cases z2.1
        omega
      · rintro ⟨ok,cj,z2,z3,z4⟩
        exact ⟨ok,cj,z2,z3,by omega⟩
     obtain ⟨f',dI,g1,g2,g3,g4,g5,g6⟩:=C.advance (N - (posOf ay i+1)) (posOf ay i+1) (by omega) Xj F W6 aM
     refine di _ _ (after f' dI ao x aj g1 g3 (fun k ok bu hN=>?_) (fun k ok bu mL ax=>?_) g5 au aC g6)
     · have lX:=(Array.getElem?_eq_some_iff.1 bu).1
       constructor
       · rintro (rfl | h)
         · omega
         · have:=(ke k ok bu hN).1 h
           omega
       · intro h
         by_cases fu:k=i
         · exact .inl fu
         · refine .inr ((ke k ok bu hN).2 ?_)
           rcases Nat.lt_or_ge (posOf ay k) s with bc | bc
           · exact bc
           · have dp:posOf ay k≠posOf ay i:=fun e=>fu (C.sw lX ft e)
             have:=g4 k ok bu hN (by omega)
             omega
     · rcases ax with rfl | ax
       · omega
       · have:=dL k ok bu mL ax
         omega
 | false=>
   have br:fv o=false:=by
    cases h:fv o with
    | false=>rfl
    | true=>rw [YF h] at jP;cases jP
   obtain ⟨c,aF,EY⟩:∃c,(fy P c∧fI P c)∧(cd P an ops o).run c e.r (bY es av s)=.val e.v (bY es av s):=by
    cases eg:looks o.op with
    | false=>exact ⟨_,⟨cw i,c9 i⟩,(rn jP cA).2 eg _⟩
    | true=>
      obtain ⟨c0,au,aC⟩:=C.ask i o b9 eg jP Ey
      rw [lU] at au;cases au
      obtain ⟨c,ab,aF,aM⟩:=aC s aQ (Hk (by rw [FF];simp) fun k mk ok aa ae=>by
       simp only [Nat.zero_add]
       have bu:ops[k]? =some ok:=by simpa using ae
       cases rW:dC P ok with
       | false=>rfl
       | true=>
         simp only [cond_true]
         cases nO:Nat.blt (posOf ay k) s with
         | true=>
           rw [Nat.blt_eq] at nO
           simp only [cond_true,Bool.not_eq_true']
           cases ah:e1 mk i with
           | false=>rfl
           | true=>exact absurd (KC k mk i aa ah ((ke k ok bu rW).2 nO)) p_
         | false=>
           have Xf:¬posOf ay k<s:=by rw [←Nat.blt_eq,nO];simp
           simp only [cond_false,Bool.not_eq_true',kf,Option.getD_some]
           cases ah:e1 cq k with
           | false=>rfl
           | true=>
             by_cases fu:k=i
             · subst fu
               rw [b9] at bu;cases bu
               unfold dC at rW
               rw [jP] at rW;cases rW
             · exact absurd ((ke k ok bu rW).1 (wk k fu ah)) Xf)
      rw [(rn jP aM).1] at aM
      exact ⟨c,aF,aM⟩
   refine ny bx aF.1 aF.2 b9 EY I.size reads nS fun ao x aj au aC aM=>di _ _ (after s F ao x aj aQ zJ (fun k ok bu hN=>?_) (fun k ok bu mL ax=>?_) (iy.congr fun k=>D_ (fun h=>by rw [br] at h;cases h.1) s k) au aC aM)
   · constructor
     · rintro (rfl | h)
       · rw [b9] at bu;cases bu
         unfold dC at hN
         rw [jP] at hN;cases hN
       · exact (ke k ok bu hN).1 h
     · intro h
       exact .inr ((ke k ok bu hN).2 h)
   · rcases ax with rfl | ax
     · rw [b9] at bu;cases bu;rw [br] at mL;cases mL
     · exact dL k ok bu mL ax
theorem Ja {D:List Deferred} {ar:Fr} (C:Cert P an ops calls es bk a_ cB av dO order ay N M lit) {fR:Env} (DV:N≤M) {listed:Array Bool} {a:Act} {w:World} (I:nr P ar an ops es bk av dO ay fR N D listed a w)
 (dL:∀k,k<ops.size→posOf ay k<N→listed.getD k false=true):∃ao,fR.le ao∧RegRel0 ao an cB a∧a.defers=D∧aY ar ao av w:=by
 obtain ⟨E,s,F,kb,aQ,zJ,ke,_,iy,nS,r6⟩:=I.main
 have cT:es[N]? =none:=List.getElem?_eq_none (by rw [C.len];exact Nat.le_refl _)
 have nL:bY es av N=av:=by simp [bY,cT]
 have KT:dH es cB N=cB:=by simp [dH,cT]
 have ub:s=N:=by
  rcases C.Oj s aQ with (h | ⟨h,_⟩) | ⟨k,ok,bL,b0,fN⟩
  · have:=C.xk;omega
  · exact h
  · rcases Nat.lt_or_ge s N with aP | h8
    · have:=(ke k ok bL b0).1 (dL k (Array.getElem?_eq_some_iff.1 bL).1 (by omega))
      omega
    · omega
 subst ub
 have gQ:F=ar:=iy.none fun k ax=>by
  obtain ⟨ok,au,aC,aM,bG⟩:=ax
  exact aM (dL k (Array.getElem?_eq_some_iff.1 au).1 bG)
 subst gQ
 rw [nL] at nS
 have zj:∀k,posOf ay k<s→posOf ay k<M:=fun k h=>by omega
 refine ⟨E,kb,⟨I.size,fun t aA=>?_⟩,I.defers,nS⟩
 have X5:∀(k bp:Nat) (ok iX:Oper),ops[k]? =some ok→ops[bp]? =some iX→posOf ay k<s→posOf ay bp<s→ok.dst=some t→iX.dst=some t→k=bp:=by
  intro k bp ok iX aa ae ct cf aI bo
  obtain ⟨mk,_,_,ag⟩:=C.kL k ok aa
  obtain ⟨mk',_,gR,_⟩:=ag (zj k ct) bp iX ae (zj bp cf)
  unfold mf at gR
  rw [gM] at gR
  by_cases iz:k=bp
  · exact iz
  · rw [if_neg iz,bo,aI] at gR
    simp at gR
 rcases C.Gx s (Nat.le_refl _) t aA with ⟨k,ok,yS,au,aC,aM,bG,dJ⟩ | ⟨au,aC⟩
 · rw [KT] at dJ
   rcases r6 t aA with ⟨bp,iX,Dv,bW,b3,dv,iF,nb⟩ | ⟨bW,_⟩
   · have:=X5 k bp ok iX aC b3 au (I.pN bp bW) aM dv
     subst this
     rw [bG] at iF;cases iF
     rw [dJ];exact nb
   · exact absurd aM (bW k ok (dL k (Array.getElem?_eq_some_iff.1 aC).1 au) aC)
 · rw [KT] at aC
   rcases r6 t aA with ⟨bp,iX,Dv,bW,b3,dv,iF,nb⟩ | ⟨_,b3⟩
   · exact absurd dv (au bp iX (I.pN bp bW) b3)
   · rw [aC];exact b3
theorem Jk {rd:Option Nat} {D:List Deferred} {ar:Fr} (bx:ea P) (cw:∀i,fy P (calls i)) (c9:∀i,fI P (calls i)) (C:Cert P an ops calls es bk a_ cB av dO order ay N M false) {fR:Env} {Q:Exit→Act→World→Prop}
 (cK:N=ops.size→∀ao bg aj,fR.le ao→RegRel0 ao an cB bg→bg.defers=D→aY ar ao av aj→Q .normal bg aj)
 (gX:∀ao bg aj x v ab,fR.le ao→N<ops.size→ops.size≤M→(∃i0 hq,ops[i0]? =some hq∧posOf ay i0=N∧(cd P an ops hq).run (calls i0) cB av=.cp v ab)→RegRel0 ao an (lQ bk ops.toList) bg→bg.defers=D→Rel ao v x→aY ar ao ab aj→Q (.panic (nc x)) bg aj)
 (dr:M<ops.size→∀(fuel:Nat) (listed:Array Bool) ao bg aj,(List.range ops.size).countP (fun i=>!listed.getD i false)≤fuel→listed.size=ops.size→nt ops (fun k=>listed.getD k false=true)→(∀k,k<ops.size→(listed.getD k false=true↔posOf ay k<N))→
   fR.le ao→RegRel0 ao an cB bg→bg.defers=D→aY ar ao av aj→wpAnyIn (b8 rd) 0 P .any ops Q fuel listed bg aj):∀(fuel:Nat) (listed:Array Bool) (a:Act) (w:World),(List.range ops.size).countP (fun i=>!listed.getD i false)≤fuel→
 nr P ar an ops es bk av dO ay fR N D listed a w→wpAnyIn (b8 rd) 0 P .any ops Q fuel listed a w:=by
 have done:∀(listed:Array Bool) (a:Act) (w:World),nr P ar an ops es bk av dO ay fR N D listed a w→Region.ready .any ops listed=[]→∀i,i<ops.size→listed.getD i false=true:=by
  intro listed a w I aG i
  induction i using Nat.strongRecOn with
  | _ i bh=>
    intro aD
    cases fa:listed.getD i false with
    | true=>rfl
    | false=>
      exfalso
      have b9:ops[i]? =some ops[i]:=Array.getElem?_eq_getElem aD
      obtain ⟨cq,_,g',_⟩:=C.kL i _ b9
      have:i ∈ Region.ready .any ops listed:=by
       rw [mem_ready]
       refine ⟨?_,ops[i],b9,fun e he ah=>?_⟩
       · have b5:i<listed.size:=by rw [I.o_];exact aD
         rw [Array.getD_eq_getD_getElem?,Array.getElem?_eq_getElem b5] at fa ⊢
         exact fa
       · have aa:=List.all_eq_true.1 g' e (Array.mem_toList_iff.2 he)
         rw [td] at ah
         rw [ah] at aa
         simp only [Bool.not_true,Bool.false_or,Nat.blt_eq] at aa
         exact bh e.on aa (by omega)
      rw [aG] at this
      simp at this
 have DV:=C.Mm
 have full:∀(listed:Array Bool) (a:Act) (w:World),nr P ar an ops es bk av dO ay fR N D listed a w→(∀k,k<ops.size→posOf ay k<N→listed.getD k false=true)→(N=ops.size∨(M<ops.size∧M=N))→
  ∃ao,fR.le ao∧RegRel0 ao an cB a∧a.defers=D∧aY ar ao av w:=fun _ _ _ I dL _=>Ja C DV I dL
 have finish:∀(listed:Array Bool) (a:Act) (w:World),nr P ar an ops es bk av dO ay fR N D listed a w→Region.ready .any ops listed=[]→Q .normal a w:=by
  intro listed a w I aG
  have dL:=done listed a w I aG
  have DW:N=ops.size:=by
   rcases Nat.lt_or_ge N ops.size with aP | h8
   · exfalso
     obtain ⟨i,wz,ln⟩:=C.jw N aP
     have:=I.pN i (dL i wz)
     omega
   · exact Nat.le_antisymm C.xk h8
  obtain ⟨ao,g1,g2,g3,g4⟩:=full listed a w I (fun k ax _=>dL k ax) (.inl DW)
  exact cK DW ao a w g1 g2 g3 g4
 intro fuel
 induction fuel with
 | zero=>
   intro listed a w aF I
   have dL:∀i,i<ops.size→listed.getD i false=true:=by
    intro i aD
    have a_:(List.range ops.size).countP (fun i=>!listed.getD i false)=0:=by omega
    rw [List.countP_eq_zero] at a_
    simpa using a_ i (List.mem_range.2 aD)
   have aG:Region.ready .any ops listed=[]:=by
    cases az:Region.ready .any ops listed with
    | nil=>rfl
    | cons j YN=>
      exfalso
      have bB:j ∈ Region.ready .any ops listed:=by rw [az];simp
      rw [mem_ready] at bB
      obtain ⟨aa,o,ae,_⟩:=bB
      have:=dL j (Array.getElem?_eq_some_iff.1 ae).1
      rw [pX] at this
      rw [Array.getD_eq_getD_getElem?,this] at aa
      simp at aa
   exact ⟨aG,finish listed a w I aG⟩
 | succ fuel bh=>
   intro listed a w aF I
   by_cases zL:M<ops.size∧∀k,k<ops.size→posOf ay k<N→listed.getD k false=true
   · obtain ⟨rI,dL⟩:=zL
     obtain ⟨ao,g1,g2,g3,g4⟩:=full listed a w I dL (.inr ⟨rI,(C.tail rI).1⟩)
     exact dr rI (fuel+1) listed ao a w aF I.o_ I.down (fun k ax=>⟨I.pN k,dL k ax⟩) g1 g2 g3 g4
   have wQ:∀i,i ∈ Region.ready .any ops listed→posOf ay i<M:=by
    intro i aD
    have ln:=aD
    rw [mem_ready] at ln
    obtain ⟨aa,o,ae,rO⟩:=ln
    have ft:i<ops.size:=(Array.getElem?_eq_some_iff.1 ae).1
    rcases Nat.lt_or_ge M ops.size with rI | rI
    · obtain ⟨zj,uc⟩:=C.tail rI
      rcases Nat.lt_or_ge (posOf ay i) N with aP | h8
      · omega
      · exfalso
        refine zL ⟨rI,fun k ax En=>?_⟩
        obtain ⟨cq,kf,_⟩:=C.kL i o ae
        have ah:=uc i o cq ae h8 kf k ax En
        have tD:nt ops fun k=>listed.getD k false=true∨k=i:=by
         intro k ok e ax bu he ah
         rcases ax with ax | rfl
         · exact .inl (I.down k ok e ax bu he ah)
         · rw [ae] at bu;cases bu
           exact .inl (rO e (Array.mem_toList_iff.1 he) (by rw [td];exact ah))
        rcases xf tD ops.toList [] (fun j=>by simp) (fun k m j ax=>by simp at ax) i cq k kf ah (.inr rfl) with h | h
        · exact h
        · subst h;omega
    · have:=(C.gS i ft).1
      omega
   refine ⟨fun aG=>finish listed a w I aG,fun i aD=>?_⟩
   refine Jl bx cw c9 C I aD (wQ i aD) (fun h=>by cases h) (fun bg aj Bq=>bh _ bg aj ?_ Bq) gX
   have ln:=aD
   rw [mem_ready] at ln
   obtain ⟨aa,o,ae,_⟩:=ln
   have ft:i<ops.size:=(Array.getElem?_eq_some_iff.1 ae).1
   have fa:i<listed.size:=by rw [I.o_];exact ft
   have p_:listed.getD i false=false:=by
    rw [Array.getD_eq_getD_getElem?,Array.getElem?_eq_getElem fa] at aa ⊢
    exact aa
   have:=yJ (fun k=>!listed.getD k false) (fun k=>!(listed.setIfInBounds i true).getD k false) (List.range ops.size)
    (fun k _ ax=>by
      simp only [Bool.not_eq_true'] at ax ⊢
      cases az:listed.getD k false with
      | false=>rfl
      | true=>
        have:=(eU (k:=k) fa).2 (.inr az)
        rw [ax] at this
        cases this)
    ⟨i,List.mem_range.2 ft,by simp [p_],by
      have:=(eU (k:=i) fa).2 (.inl rfl)
      simp [this]⟩
   omega
theorem af.set_comm (h:af) {b bC:aO} (dp:b≠bC) (k bp:b1):(h.set b k).set bC bp=(h.set bC bp).set b k:=by
 unfold af.set
 simp only
 rw [T.put_comm _ _ _ _ _ _ (fun e=>dp e.symm)]
theorem G2 {o:Oper} {x:Operand} (h:pk o=some x):∃t y,o.op=.store t x y∧o.dst=none∧o.guard=none:=by
 unfold pk at h
 split at h
 case h_2=>cases h
 rename_i t OU y aS
 split at h
 case h_2=>cases h
 rename_i a1
 split at h
 case h_2=>cases h
 rename_i aE
 cases h
 exact ⟨t,y,aS,a1,aE⟩
theorem aaH {h ab:af} {b:aO} {off:Nat} {ad:List V} (he:lay h b off ad=some ab):∃k,ab=h.set b k∧∀H:af,H.get b=h.get b→lay H b off ad=some (H.set b k):=by
 unfold lay at he ⊢
 cases aE:h.get b<;>rw [aE] at he<;>simp only [b1.on] at he<;>try (cases he;done)
 obtain ⟨aF,aa⟩:=dR he
 cases aa
 refine ⟨_,rfl,fun H jm=>?_⟩
 rw [jm]
 simp only [b1.on,aF,cond_true]
theorem Jg {all:Array Oper} {o:Oper} {x:Operand} {call:dd} {r:bt} {h ab:af} {v:V} (al:pk o=some x) (he:(cd P an all o).run call r h=.val v ab):
 ∃b off k,(bD x).run (c6 r (bQ all o))=.ptr b off∧ab=h.set b k∧∀H:af,H.get b=h.get b→(cd P an all o).run call r H=.val v (H.set b k):=by
 obtain ⟨t,y,aS,a1,aE⟩:=G2 al
 obtain ⟨aa,ae⟩:=iL he
 have key:cd P an all o=⟨hx none (eD P o) (bQ all o)⟩:=by
  unfold cd
  rw [show (eG an o.dst&&i_ (bQ all o))=true from by rw [aa,ae];rfl,aE]
  rfl
 rw [key] at he ⊢
 simp only [hx] at he ⊢
 have rL:∀H,(eD P o).run call (c6 r (bQ all o)) H=fY .bad ((pj P t).run H ((bD x).run (c6 r (bQ all o))) ((bD y).run (c6 r (bQ all o)))):=by
  intro H
  unfold eD
  rw [aS]
 rw [rL] at he
 cases aQ:(pj P t).run h ((bD x).run (c6 r (bQ all o))) ((bD y).run (c6 r (bQ all o))) with
 | none=>rw [aQ] at he;cases he
 | some aI=>
   rw [aQ] at he
   simp only [fY,aU.val.injEq] at he
   obtain ⟨rfl,rfl⟩:=he
   unfold pj at aQ
   cases aA:aX P t with
   | none=>rw [aA] at aQ;cases aQ
   | some aK=>
     rw [aA] at aQ
     simp only [nj] at aQ
     obtain ⟨b,off,ag,bo⟩:=uL aQ
     obtain ⟨aF,cI⟩:=dR bo
     obtain ⟨k,bL,b0⟩:=aaH cI
     refine ⟨b,off,k,ag,bL,fun H jm=>?_⟩
     rw [rL]
     unfold pj
     rw [aA]
     simp only [nj,ag,V.hE,aF,cond_true,b0 H jm,fY]
theorem uS {listed:Array Bool} (g':∀i o,ops[i]? =some o→kt i o=true) (b5:listed.size=ops.size) (aG:Region.ready .any ops listed=[]):∀i,i<ops.size→listed.getD i false=true:=by
 intro i
 induction i using Nat.strongRecOn with
 | _ i bh=>
   intro aD
   cases fa:listed.getD i false with
   | true=>rfl
   | false=>
     exfalso
     have b9:ops[i]? =some ops[i]:=Array.getElem?_eq_getElem aD
     have g':=g' i _ b9
     have:i ∈ Region.ready .any ops listed:=by
      rw [mem_ready]
      refine ⟨?_,ops[i],b9,fun e he ah=>?_⟩
      · have aQ:i<listed.size:=by rw [b5];exact aD
        rw [Array.getD_eq_getD_getElem?,Array.getElem?_eq_getElem aQ] at fa ⊢
        exact fa
      · have aa:=List.all_eq_true.1 g' e (Array.mem_toList_iff.2 he)
        rw [td] at ah
        rw [ah] at aa
        simp only [Bool.not_true,Bool.false_or,Nat.blt_eq] at aa
        exact bh e.on aa (by omega)
     rw [aG] at this
     simp at this
theorem sz {listed:Array Bool} {i:Nat} (afD:listed.size=ops.size) (aD:i ∈ Region.ready .any ops listed):i<ops.size∧¬listed.getD i false=true:=by
 rw [mem_ready] at aD
 obtain ⟨aa,o,ae,_⟩:=aD
 refine ⟨(Array.getElem?_eq_some_iff.1 ae).1,fun h=>?_⟩
 rw [pX] at h
 rw [Array.getD_eq_getD_getElem?,h] at aa
 simp at aa
theorem G5 {rd:Option Nat} {ar:Fr} (bx:ea P) (cw:fy P call) (c9:fI P call) (g':∀i o,ops[i]? =some o→kt i o=true) {i:Nat} {o:Oper} (b9:ops[i]? =some o) (a1:o.dst=none) {r:bt} {h ab:af} {v:V}
 (he:(cd P an ops o).run call r h=.val v ab) {Q:Exit→Act→World→Prop} {E:Env} {a:Act} {w:World} (k:eJ E an r a) (s:aY ar E h w) (cK:∀ao aj,E.le ao→aY ar ao ab aj→Q .normal a aj)
 {listed:Array Bool} (b5:listed.size=ops.size) (dL:∀j,j<ops.size→(listed.getD j false=true↔j≠i)) (fuel:Nat) (av:1≤fuel):wpAnyIn (b8 rd) 0 P .any ops Q fuel listed a w:=by
 have ft:i<ops.size:=(Array.getElem?_eq_some_iff.1 b9).1
 have fa:i<listed.size:=by rw [b5];exact ft
 cases fuel with
 | zero=>omega
 | succ fuel=>
   refine ⟨fun aG=>absurd (uS g' b5 aG i ft) (fun h=>((dL i ft).1 h) rfl),fun j bB=>?_⟩
   obtain ⟨w7,sg⟩:=sz b5 bB
   have nM:j=i:=by
    rcases Nat.decEq j i with dp | he
    · exact absurd ((dL j w7).2 dp) sg
    · exact he
   subst nM
   refine ny bx cw c9 b9 he k.size (fun t aA=>k.aB t (Nat.le_of_ble_eq_true (List.all_eq_true.1 (iL he).2 t aA))) s fun ao x aj au aC aM=>?_
   rw [a1]
   refine wpAnyIn_done ?_ (cK ao aj au aM) fuel
   cases aG:Region.ready .any ops (listed.setIfInBounds j true) with
   | nil=>rfl
   | cons m ms=>
     exfalso
     have hm:m ∈ Region.ready .any ops (listed.setIfInBounds j true):=by rw [aG];simp
     obtain ⟨m1,m2⟩:=sz (by simp [b5]) hm
     refine m2 ((eU fa).2 ?_)
     by_cases KE:m=j
     · exact .inl KE
     · exact .inr ((dL m m1).2 KE)
theorem aev {rd:Option Nat} {ar:Fr} (bx:ea P) (cw:fy P call) (c9:fI P call) (g':∀i o,ops[i]? =some o→kt i o=true) {i j:Nat} {o p:Oper} (b9:ops[i]? =some o) (lo:ops[j]? =some p) (kQ:i≠j) (a1:o.dst=none) (kj:p.dst=none)
 {r:bt} {h aa e4 ae:af} {v eQ u fG:V} (he:(cd P an ops o).run call r h=.val v aa) (ag:(cd P an ops p).run call r aa=.val u ae) (e8:(cd P an ops p).run call r h=.val fG e4) (d':(cd P an ops o).run call r e4=.val eQ ae)
 {Q:Exit→Act→World→Prop} {E:Env} {a:Act} {w:World} (k:eJ E an r a) (s:aY ar E h w) (cK:∀ao aj,E.le ao→aY ar ao ae aj→Q .normal a aj)
 {listed:Array Bool} (b5:listed.size=ops.size) (dL:∀m,m<ops.size→(listed.getD m false=true↔(m≠i∧m≠j))) (fuel:Nat) (av:2≤fuel):wpAnyIn (b8 rd) 0 P .any ops Q fuel listed a w:=by
 have ft:i<ops.size:=(Array.getElem?_eq_some_iff.1 b9).1
 have zy:j<ops.size:=(Array.getElem?_eq_some_iff.1 lo).1
 have iT:∀{q:Oper} {H jC:af} {z:V},(cd P an ops q).run call r H=.val z jC→∀t ∈ bQ ops q,Rel E (T.get .bad (aq t) r) (a.tmps.getD t undef):=
  fun he t aA=>k.aB t (Nat.le_of_ble_eq_true (List.all_eq_true.1 (iL he).2 t aA))
 cases fuel with
 | zero=>omega
 | succ fuel=>
   refine ⟨fun aG=>absurd (uS g' b5 aG i ft) (fun h=>((dL i ft).1 h).1 rfl),fun m hm=>?_⟩
   obtain ⟨m1,m2⟩:=sz b5 hm
   have gz:m=i∨m=j:=by
    rcases Nat.decEq m i with dp | he
    · rcases Nat.decEq m j with Xs | dM
      · exact absurd ((dL m m1).2 ⟨dp,Xs⟩) m2
      · exact .inr dM
    · exact .inl he
   rcases gz with rfl | rfl
   · refine ny bx cw c9 b9 he k.size (iT he) s fun ao x aj au aC aM=>?_
     rw [a1]
     have fa:m<listed.size:=by rw [b5];exact ft
     refine G5 bx cw c9 g' lo kj ag (k.mono au) aM (fun bX bM bW b3=>cK bX bM (au.trans bW) b3) (by simp [b5]) (fun z bm=>?_) fuel (by omega)
     rw [eU fa,dL z bm]
     constructor
     · rintro (rfl | h)
       · exact kQ
       · exact h.2
     · intro h
       by_cases w2:z=m
       · exact .inl w2
       · exact .inr ⟨w2,h⟩
   · refine ny bx cw c9 lo e8 k.size (iT e8) s fun ao x aj au aC aM=>?_
     rw [kj]
     have fa:m<listed.size:=by rw [b5];exact zy
     refine G5 bx cw c9 g' b9 a1 d' (k.mono au) aM (fun bX bM bW b3=>cK bX bM (au.trans bW) b3) (by simp [b5]) (fun z bm=>?_) fuel (by omega)
     rw [eU fa,dL z bm]
     constructor
     · rintro (rfl | h)
       · exact fun e=>kQ e.symm
       · exact h.1
     · intro h
       by_cases w2:z=m
       · exact .inl w2
       · exact .inr ⟨h,w2⟩
theorem OQ {rd:Option Nat} {id:Nat} {a:Act} {w:World} {Q:Exit→Act→World→Prop} (hm:P.follows .mixedOrders=true)
 (h:wpAnyIn (b8 rd) 0 P .any ops Q ops.size (Array.replicate ops.size false) a {w with drawn:=w.drawn+1}):(Code.region id ops true).wpIn (b8 rd) 0 P Q a w:=by
 refine wpIn_region_draw fun t=>?_
 rw [hm]
 exact wpAnyIn_sound _ _ _ _ _ h
theorem G9 {r bq:bt}:∀{rs:List Nat},(∀t ∈ rs,T.get .bad (aq t) bq=T.get .bad (aq t) r)→c6 bq rs=c6 r rs
 | [],_=>rfl
 | t::cg,h=>by
   simp only [c6]
   rw [h t (by simp),G9 (rs:=cg) fun u hu=>h u (by simp [hu])]
theorem UD {all:Array Oper} {o:Oper} {call:dd} {r bq:bt} (h:∀t ∈ bQ all o,T.get .bad (aq t) bq=T.get .bad (aq t) r) (H:af):(cd P an all o).run call bq H=(cd P an all o).run call r H:=by
 unfold cd
 cases aF:(eG an o.dst&&i_ (bQ all o)) with
 | false=>rfl
 | true=>
   simp only [cond_true]
   cases aE:o.guard with
   | none=>simp only [hx,G9 h]
   | some mW=>
     obtain ⟨j,want⟩:=mW
     simp only
     cases all[j]? with
     | none=>rfl
     | some g=>
       simp only
       cases g.dst with
       | none=>rfl
       | some d=>
         simp only
         cases (Nat.blt d an&&Nat.ble d top) with
         | false=>rfl
         | true=>simp only [cond_true,hx,G9 h]
theorem aeu {rd:Option Nat} {ar:Fr} (bx:ea P) (cw:fy P call) (c9:fI P call) (g':∀i o,ops[i]? =some o→kt i o=true) {l i j:Nat} {b o p:Oper} (rY:ops[l]? =some b) (b9:ops[i]? =some o) (lo:ops[j]? =some p)
 (fa:l≠i) (Kx:l≠j) (kQ:i≠j) (a1:o.dst=none) (kj:p.dst=none) {r bw:bt} {h aa e4 ae:af} {z v eQ u fG:V}
 (ah:∀H,(cd P an ops b).run call r H=.val z H) (o1:bw=(eR b.dst).run r z) (ua:∀t ∈ bQ ops p,T.get .bad (aq t) bw=T.get .bad (aq t) r)
 (he:(cd P an ops o).run call bw h=.val v aa) (ag:(cd P an ops p).run call bw aa=.val u ae) (e8:(cd P an ops p).run call bw h=.val fG e4) (d':(cd P an ops o).run call bw e4=.val eQ ae)
 {Q:Exit→Act→World→Prop} {E:Env} {a:Act} {w:World} (k:eJ E an r a) (s:aY ar E h w) (cK:∀ao bg aj,E.le ao→eJ ao an bw bg→aY ar ao ae aj→Q .normal bg aj)
 {listed:Array Bool} (b5:listed.size=ops.size) (rG:nt ops fun k=>listed.getD k false=true) (X9:∀cq,(d_ [] ops.toList)[i]? =some cq→e1 cq l=true) (kf:∃cq,(d_ [] ops.toList)[i]? =some cq)
 (dL:∀m,m<ops.size→(listed.getD m false=true↔(m≠l∧m≠i∧m≠j))) (fuel:Nat) (av:3≤fuel):wpAnyIn (b8 rd) 0 P .any ops Q fuel listed a w:=by
 have zB:l<ops.size:=(Array.getElem?_eq_some_iff.1 rY).1
 have ft:i<ops.size:=(Array.getElem?_eq_some_iff.1 b9).1
 have zy:j<ops.size:=(Array.getElem?_eq_some_iff.1 lo).1
 have iT:∀{E:Env} {a:Act} {q:Oper} {R:bt} {H jC:af} {z:V},eJ E an R a→(cd P an ops q).run call R H=.val z jC→∀t ∈ bQ ops q,Rel E (T.get .bad (aq t) R) (a.tmps.getD t undef):=
  fun k he t aA=>k.aB t (Nat.le_of_ble_eq_true (List.all_eq_true.1 (iL he).2 t aA))
 have Mo:∀(L:Array Bool),(nt ops fun k=>L.getD k false=true)→¬L.getD l false=true→i ∈ Region.ready .any ops L→False:=by
  intro L V' p8 tS
  rw [mem_ready] at tS
  obtain ⟨_,bU,gj,rO⟩:=tS
  rw [b9] at gj;cases gj
  obtain ⟨cq,kf⟩:=kf
  have tD:nt ops fun k=>L.getD k false=true∨k=i:=by
   intro k ok e ax bu he ah
   rcases ax with ax | rfl
   · exact .inl (V' k ok e ax bu he ah)
   · rw [b9] at bu;cases bu
     exact .inl (rO e (Array.mem_toList_iff.1 he) (by rw [td];exact ah))
  rcases xf tD ops.toList [] (fun j=>by simp) (fun k m j ax=>by simp at ax) i cq l kf (X9 cq kf) (.inr rfl) with h | h
  · exact p8 h
  · exact fa h
 have UI:∀m,m ∈ Region.ready .any ops listed→nt ops fun k=>(listed.setIfInBounds m true).getD k false=true:=by
  intro m hm k ok e ax bu he ah
  have lY:=hm
  rw [mem_ready] at lY
  obtain ⟨_,agD,KK,rO⟩:=lY
  have Xo:m<listed.size:=by rw [b5];exact (Array.getElem?_eq_some_iff.1 KK).1
  rw [eU Xo] at ax ⊢
  rcases ax with rfl | ax
  · rw [KK] at bu;cases bu
    exact .inr (rO e (Array.mem_toList_iff.1 he) (by rw [td];exact ah))
  · exact .inr (rG k ok e ax bu he ah)
 cases fuel with
 | zero=>omega
 | succ fuel=>
   refine ⟨fun aG=>absurd (uS g' b5 aG i ft) (fun h=>((dL i ft).1 h).2.1 rfl),fun m hm=>?_⟩
   obtain ⟨m1,m2⟩:=sz b5 hm
   have gz:m=l∨m=j:=by
    rcases Nat.decEq m l with cr | aN
    · rcases Nat.decEq m j with gr | bf
      · rcases Nat.decEq m i with n3 | bT
        · exact absurd ((dL m m1).2 ⟨cr,n3,gr⟩) m2
        · subst bT
          exact (Mo listed rG (fun h=>((dL l zB).1 h).1 rfl) hm).elim
      · exact .inr bf
    · exact .inl aN
   rcases gz with rfl | rfl
   · -- p first
     have jR:m<listed.size:=by rw [b5];exact zB
     refine ny bx cw c9 rY (ah h) k.size (iT k (ah h)) s fun ao x aj au aC aM=>?_
     have bL:eJ ao an bw (a.put b.dst x):=by rw [o1];exact (k.mono au).put (iL (ah h)).1 aC
     refine aev bx cw c9 g' b9 lo kQ a1 kj he ag e8 d' bL aM (fun bX bM bW b3=>cK bX _ bM (au.trans bW) (bL.mono bW) b3) (by simp [b5]) (fun y aZ=>?_) fuel (by omega)
     rw [eU jR,dL y aZ]
     constructor
     · rintro (rfl | h)
       · exact ⟨fa,Kx⟩
       · exact h.2
     · intro h
       by_cases w0:y=m
       · exact .inl w0
       · exact .inr ⟨w0,h⟩
   · -- q first
     have jR:m<listed.size:=by rw [b5];exact zy
     have r3:(cd P an ops p).run call r h=.val fG e4:=by rw [←UD ua];exact e8
     have V_:=UI m hm
     refine ny bx cw c9 lo r3 k.size (iT k r3) s fun ao x aj au aC aM=>?_
     rw [kj]
     have r9:(listed.setIfInBounds m true).size=ops.size:=by simp [b5]
     cases fuel with
     | zero=>omega
     | succ fuel=>
       refine ⟨fun aG=>absurd (uS g' r9 aG i ft) (fun h=>?_),fun y aZ=>?_⟩
       · rcases (eU jR).1 h with e | h
         · exact kQ e
         · exact ((dL i ft).1 h).2.1 rfl
       obtain ⟨et,f_⟩:=sz r9 aZ
       have Ye:y=l:=by
        rcases Nat.decEq y l with cr | aN
        · rcases Nat.decEq y i with n3 | bT
          · exfalso
            refine f_ ((eU jR).2 ?_)
            by_cases w0:y=m
            · exact .inl w0
            · exact .inr ((dL y et).2 ⟨cr,n3,w0⟩)
          · subst bT
            refine (Mo _ V_ (fun h=>?_) aZ).elim
            rcases (eU jR).1 h with e | h
            · exact Kx e
            · exact ((dL l zB).1 h).1 rfl
        · exact aN
       subst Ye
       have bp:=k.mono au
       refine ny bx cw c9 rY (ah e4) bp.size (iT bp (ah e4)) aM fun bX ch bM t1 t2 t3=>?_
       have bL:eJ bX an bw (a.put b.dst ch):=by rw [o1];exact (bp.mono t1).put (iL (ah h)).1 t2
       have Ez:y < (listed.setIfInBounds m true).size:=by rw [r9];exact zB
       refine G5 bx cw c9 g' b9 a1 d' bL t3 (fun fp mu bW b3=>cK fp _ mu (au.trans (t1.trans bW)) (bL.mono bW) b3) (by simp [b5]) (fun g aE=>?_) fuel (by omega)
       rw [eU Ez,eU jR,dL g aE]
       constructor
       · rintro (rfl | rfl | h)
         · exact fa
         · exact fun e=>kQ e.symm
         · exact h.2.1
       · intro h
         by_cases aN:g=y
         · exact .inl aN
         · by_cases bf:g=m
           · exact .inr (.inl bf)
           · exact .inr (.inr ⟨aN,h,bf⟩)
theorem Dp {rd:Option Nat} {ar:Fr} {E:Env} {h:af} {w:World} {id:Nat} (cE:P.follows .mixedOrders=true) (bx:ea P) (cw:fy P call) (c9:fI P call) {r:bt} {a:Act}
 {Q:Exit→Act→World→Prop} (k:eJ E an r a) (s:aY ar E h w) {es:List ec} {eI:bt} {bc:af} {order ay dO:List Nat} {N M:Nat} (C:Cert P an ops (fun _=>call) es r h eI bc dO order ay N M false)
 (cK:N=ops.size→∀ao bg aj,E.le ao→eJ ao an eI bg→aY ar ao bc aj→Q .normal bg aj)
 (gX:∀ao bg aj x v ab,E.le ao→N<ops.size→ops.size≤M→(∃i0 hq,ops[i0]? =some hq∧posOf ay i0=N∧(cd P an ops hq).run call eI bc=.cp v ab)→eJ ao an (lQ r ops.toList) bg→Rel ao v x→aY ar ao ab aj→Q (.panic (nc x)) bg aj)
 (dr:M<ops.size→∀(fuel:Nat) (listed:Array Bool) ao bg aj,(List.range ops.size).countP (fun i=>!listed.getD i false)≤fuel→listed.size=ops.size→nt ops (fun k=>listed.getD k false=true)→(∀k,k<ops.size→(listed.getD k false=true↔posOf ay k<N))→
   E.le ao→eJ ao an eI bg→aY ar ao bc aj→wpAnyIn (b8 rd) 0 P .any ops Q fuel listed bg aj):
 (Code.region id ops true).wpIn (b8 rd) 0 P Q a w:=by
 have cT:∀k,¬(Array.replicate ops.size false).getD k false=true:=by
  intro k
  rw [pX,Array.getElem?_replicate]
  split<;>simp
 have iy:Holds ar ar es bc ay (il ops es bc ay (Array.replicate ops.size false) 0):=
  ⟨rfl,fun _ _=>rfl,fun k ax=>(by obtain ⟨_,_,_,_,a_⟩:=ax;omega),fun k bp ax=>(by obtain ⟨_,_,_,_,a_⟩:=ax;omega)⟩
 obtain ⟨f',dI,g1,g2,g3,g4,g5,g6⟩:=C.advance N 0 (by omega) (fun k o _ _ _=>cT k) ar iy (E:=E) (w:={w with drawn:=w.drawn}) (by rw [C.a_];exact s.same rfl rfl rfl rfl)
 have jO:∀(ao:Env) (bg:Act),E.le ao→bg.defers=a.defers→∀(bq:bt),T.get .bad ee bq=T.get .bad ee r→jA ao (T.get .bad ee bq) bg.defers:=fun ao bg he a1 bq o0=>by rw [o0,a1];exact k.defers.mono he
 have zr:T.get .bad ee eI=T.get .bad ee r:=by
  have:=C.Dq N (Nat.le_refl _)
  have EH:es[N]? =none:=List.getElem?_eq_none (by rw [C.len];exact Nat.le_refl _)
  simpa [dH,EH] using this
 refine OQ cE (Jk bx (fun _=>cw) (fun _=>c9) C (fR:=E) (D:=a.defers)
  (fun aV ao bg aj au aC aM bG=>cK aV ao bg aj au ⟨aC,jO ao bg au aM eI zr⟩ bG)
  (fun ao bg aj x v ab au aC Gq aM bG dJ e0 hY=>gX ao bg aj x v ab au aC Gq aM ⟨bG,jO ao bg au dJ _ yW⟩ e0 hY)
  (fun g0 fuel listed ao bg aj g1 g2 g3 g4 au aC aM bG=>dr g0 fuel listed ao bg aj g1 g2 g3 g4 au ⟨aC,jO ao bg au aM eI zr⟩ bG) ops.size _ a _ ?_ ?_)
 · exact Nat.le_trans List.countP_le_length (by simp)
 · refine ⟨by simp,k.size,rfl,fun bp ax=>absurd ax (cT bp),fun bp o e ax=>absurd ax (cT bp),E,f',dI,Env.le.refl E,g1,g3,fun bp o aa ae=>⟨fun h=>absurd h (cT bp),fun h=>by have:=g4 bp o aa ae (Nat.zero_le _);omega⟩,
    fun bp o _ _ h=>absurd h (cT bp),g5,?_,fun t aA=>.inr ⟨fun bp o ax=>absurd ax (cT bp),k.aB t aA⟩⟩
   exact g6.same rfl rfl rfl rfl
theorem MT {n:Nat} {order ay:List Nat} (fE:j3 n order ay=true):order.length=n∧(∀k,k<n→posOf ay k<n∧order[posOf ay k]? =some k)∧∀p,p<n→∃i,i<n∧posOf ay i=p:=by
 unfold j3 at fE
 simp only [Bool.and_eq_true,Nat.beq_eq] at fE
 obtain ⟨l1,tU,wH,wI⟩:=fE
 refine ⟨l1,fun k ax=>?_,fun p ag=>?_⟩
 · have aE:ay[k]? =some (posOf ay k):=by
    unfold posOf
    rw [List.getElem?_eq_getElem (by omega)]
    rfl
   have:=qx wH aE
   rw [Nat.zero_add] at this
   exact ⟨by have:=(List.getElem?_eq_some_iff.1 this).1;omega,this⟩
 · have aE:order[p]? =some (order[p]'(by omega)):=List.getElem?_eq_getElem (by omega)
   have:=qx wI aE
   rw [Nat.zero_add] at this
   refine ⟨order[p]'(by omega),by have:=(List.getElem?_eq_some_iff.1 this).1;omega,?_⟩
   unfold posOf
   rw [this]
   rfl
theorem aes {order ay:List Nat} (av:xN P ops order ay=true):3≤ops.size∧∀i o,ops[i]? =some o→∃cq,(d_ [] ops.toList)[i]? =some cq∧kt i o=true∧
 (posOf ay i<ops.size-3→∀k ok,ops[k]? =some ok→posOf ay k<ops.size-3→∃mk,(d_ [] ops.toList)[k]? =some mk∧mf i cq (bQ ops o) o.dst k mk ok (Nat.blt (posOf ay k) (posOf ay i))=true∧(eh P o.op=true→dC P ok=true→posOf ay k<posOf ay i→e1 cq k=true))∧
 (¬posOf ay i<ops.size-3→Ba P ops order ay (ops.size-3) i cq o=true):=by
 unfold xN at av
 simp only [Bool.and_eq_true,Nat.ble_eq] at av
 refine ⟨av.1,fun i o aD=>?_⟩
 obtain ⟨cq,aa,ae⟩:=np av.2 i o (by simpa using aD)
 simp only [Nat.zero_add,Bool.and_eq_true] at ae
 refine ⟨cq,aa,ae.1,fun aP k ok ax lX=>?_,fun h8=>?_⟩
 · have aI:=ae.2
   rw [show Nat.blt (posOf ay i) (ops.size-3)=true from by rw [Nat.blt_eq];exact aP] at aI
   simp only [cond_true] at aI
   obtain ⟨mk,bL,b0⟩:=np aI k ok (by simpa using ax)
   simp only [Nat.zero_add] at b0
   rw [show Nat.blt (posOf ay k) (ops.size-3)=true from by rw [Nat.blt_eq];exact lX] at b0
   simp only [cond_true,Bool.and_eq_true] at b0
   refine ⟨mk,bL,b0.1,fun aN bf aP=>?_⟩
   have fN:=b0.2
   rw [aN,bf,Bool.true_and,show Nat.blt (posOf ay k) (posOf ay i)=true from by rw [Nat.blt_eq];exact aP] at fN
   exact fN
 · have aI:=ae.2
   rw [show Nat.blt (posOf ay i) (ops.size-3)=false from by rw [←Bool.not_eq_true,Nat.blt_eq];exact h8] at aI
   exact aI
theorem aet {order ay:List Nat} {N i cq p:Nat} {o AF:Oper} (ag:order[N]? =some p) (jT:ops[p]? =some AF) (h:Ba P ops order ay N i cq o=true):
 (∀k,k<ops.size→posOf ay k<N→e1 cq k=true)∧(posOf ay i=N→eh P o.op=false∧looks o.op=false)∧(posOf ay i≠N→∃x,pk o=some x)∧
 (posOf ay i=N+1→e1 cq p=true)∧(posOf ay i=N+2→∀t ∈ bQ ops o,AF.dst≠some t):=by
 unfold Ba at h
 rw [ag] at h
 simp only [Bool.and_eq_true] at h
 obtain ⟨⟨aa,ae⟩,aI,bo⟩:=h
 refine ⟨fun k ax En=>?_,fun e=>?_,fun e=>?_,fun e=>?_,fun e t aA=>?_⟩
 · obtain ⟨mk,bL,b0⟩:=np aa k ops[k] (by simp)
   simp only [Nat.zero_add] at b0
   rw [show Nat.blt (posOf ay k) N=true from by rw [Nat.blt_eq];exact En] at b0
   exact b0
 · rw [gM,if_pos e] at ae
   simpa using ae
 · rw [gM,if_neg e] at ae
   exact Option.isSome_iff_exists.1 ae
 · rw [gM,if_pos e] at aI
   exact aI
 · rw [gM,if_pos e,jT] at bo
   simp only at bo
   intro a1
   rw [a1] at bo
   simp only [Bool.not_eq_true'] at bo
   rw [show (bQ ops o).contains t=true from by simpa using aA] at bo
   cases bo
theorem D9 {es:List ec} {bc:af} {N p:Nat} (ag:p≤N):bY (es.take N) (bY es bc N) p=bY es bc p:=by
 by_cases h:p<N
 · cases he:es[p]? with
   | some e=>simp [bY,h,he]
   | none=>
     have aV:es[N]? =none:=List.getElem?_eq_none (by have:=List.getElem?_eq_none_iff.1 he;omega)
     simp [bY,h,he,aV]
 · have:p=N:=by omega
   subst this
   simp [bY,List.getElem?_take]
theorem NB {es:List ec} {eI:bt} {N p:Nat} (ag:p≤N):dH (es.take N) (dH es eI N) p=dH es eI p:=by
 by_cases h:p<N
 · cases he:es[p]? with
   | some e=>simp [dH,h,he]
   | none=>
     have aV:es[N]? =none:=List.getElem?_eq_none (by have:=List.getElem?_eq_none_iff.1 he;omega)
     simp [dH,h,he,aV]
 · have:p=N:=by omega
   subst this
   simp [dH,List.getElem?_take]
theorem Qh {order:List Nat} {es:List ec} {N i j:Nat} {o p:Oper} {e f:ec} {x y:Operand} (br:yl ops order es N=true) (aD:order[N]? =some i) (bB:order[N+1]? =some j) (b9:ops[i]? =some o) (lo:ops[j]? =some p)
 (he:es[N]? =some e) (av:es[N+1]? =some f) (al:pk o=some x) (aZ:pk p=some y) {b c:aO} {off ks:Nat} (ah:(bD x).run (c6 e.r (bQ ops o))=.ptr b off) (aF:(bD y).run (c6 f.r (bQ ops p))=.ptr c ks):b≠c:=by
 unfold yl G3 at br
 simp only [aD,bB,b9,lo,he,av,al,aZ,ah,aF] at br
 intro h
 subst h
 rw [aO.v'] at br
 cases br
set_option maxHeartbeats 2000000 in
theorem UK {rd:Option Nat} {ar:Fr} {E:Env} {h:af} {w:World} {id:Nat} (cE:P.follows .mixedOrders=true) (bx:ea P) (cw:fy P call) (c9:fI P call) {r:bt} {a:Act} {order ay:List Nat} (fE:j3 ops.size order ay=true) (fU:xN P ops order ay=true)
 {Q:Exit→Act→World→Prop} (ag:la ar E an (Q .normal) Q (Dn ops order (eP P an ops (fX ops order)) (oD P an ops (d_ [] ops.toList) ay (gq P ay 0 ops.toList) 0 ops.toList) call r h)) (k:eJ E an r a) (s:aY ar E h w):(Code.region id ops true).wpIn (b8 rd) 0 P Q a w:=by
 obtain ⟨l1,gS,jw⟩:=MT fE
 obtain ⟨ae,fU⟩:=aes fU
 unfold Dn at ag
 cases cm:(eP P an ops (fX ops order)).run call r h with
 | fail=>rw [cm] at ag;exact ag.elim
 | cp _ _ _ _ _=>rw [cm] at ag;exact ag.elim
 | ok es eI bc=>
   rw [cm] at ag
   simp only at ag
   obtain ⟨N,Wh⟩:∃N,N=ops.size-3:=⟨_,rfl⟩
   rw [←Wh] at ag fU
   cases az:(yl ops order es (N+1)&&(oD P an ops (d_ [] ops.toList) ay (gq P ay 0 ops.toList) 0 ops.toList).run call (es.take N) (bY es bc N)) with
   | false=>rw [az] at ag;exact ag.elim
   | true=>
     rw [az] at ag
     simp only [cond_true] at ag
     simp only [Bool.and_eq_true] at az
     obtain ⟨zn,wi⟩:=az
     obtain ⟨au,aC,aM,bG⟩:=qI cm
     have hlen:es.length=ops.size:=by rw [au,na,l1]
     have inj:∀i j,i<ops.size→j<ops.size→posOf ay i=posOf ay j→i=j:=by
      intro i j aD bB he
      have a:=(gS i aD).2
      have b:=(gS j bB).2
      rw [he,b] at a
      cases a
      rfl
     obtain ⟨km,p0,tE⟩:=jw N (by omega)
     obtain ⟨l3,tA,tB⟩:=jw (N+1) (by omega)
     obtain ⟨nW,mG,tC⟩:=jw (N+2) (by omega)
     have wA:ops[km]? =some ops[km]:=Array.getElem?_eq_getElem p0
     have zw:ops[l3]? =some ops[l3]:=Array.getElem?_eq_getElem tA
     have zx:ops[nW]? =some ops[nW]:=Array.getElem?_eq_getElem mG
     have EN:=(gS km p0).2
     have EL:=(gS l3 tA).2
     have EM:=(gS nW mG).2
     rw [tE] at EN
     rw [tB] at EL
     rw [tC] at EM
     have uc:∀i o,ops[i]? =some o→¬posOf ay i<N→∃cq,(d_ [] ops.toList)[i]? =some cq∧(∀k,k<ops.size→posOf ay k<N→e1 cq k=true)∧(posOf ay i=N→eh P o.op=false∧looks o.op=false)∧(posOf ay i≠N→∃x,pk o=some x)∧
      (posOf ay i=N+1→e1 cq km=true)∧(posOf ay i=N+2→∀t ∈ bQ ops o,ops[km].dst≠some t):=by
      intro i o aD h8
      obtain ⟨cq,cj,_,_,z4⟩:=fU i o aD
      exact ⟨cq,cj,aet EN wA (z4 h8)⟩
     obtain ⟨ags,_,_,aeq,_⟩:=uc km _ wA (by omega)
     obtain ⟨abm,KB,_,_,aeo,aw,_⟩:=uc l3 _ zw (by omega)
     obtain ⟨agr,af9,_,_,aep,_,Gs⟩:=uc nW _ zx (by omega)
     obtain ⟨Jp,abf⟩:=aeq tE
     obtain ⟨agV,E_⟩:=aeo (by omega)
     obtain ⟨agW,Fa⟩:=aep (by omega)
     have aw:=aw tB
     have Gs:=Gs tC
     obtain ⟨Dt,fb,ho,w_⟩:=bG _ _ (k4 EN wA)
     obtain ⟨rr,bJ,a2,a3⟩:=bG _ _ (k4 EL zw)
     obtain ⟨Jo,ct,cf,gx⟩:=bG _ _ (k4 EM zx)
     obtain ⟨agM,agZ,abV,I5,afS⟩:=G2 E_
     obtain ⟨agN,ag0,agz,I6,afT⟩:=G2 Fa
     have cT:es[N+2+1]? =none:=List.getElem?_eq_none (by omega)
     have Xi:bY es bc (N+2+1)=bc:=by simp [bY,cT]
     have ado:dH es eI (N+2+1)=eI:=by simp [dH,cT]
     have Wg:bY es bc N=Dt.h:=by simp [bY,fb]
     have ac7:dH es eI N=Dt.r:=by simp [dH,fb]
     have We:bY es bc (N+1)=rr.h:=by simp [bY,bJ]
     have ac5:dH es eI (N+1)=rr.r:=by simp [dH,bJ]
     have Wf:bY es bc (N+1+1)=Jo.h:=by simp [bY,ct]
     have ac6:dH es eI (N+1+1)=Jo.r:=by simp [dH,ct]
     rw [ac5] at w_
     rw [We] at ho
     rw [I5,ac6] at a3
     rw [I6,ado] at gx
     simp only [eR] at a3 gx
     rw [Wf] at a2
     rw [Xi] at cf
     obtain ⟨Wd,DU⟩:=rn Jp ho
     have DU:=DU abf
     obtain ⟨H5,agA,YO,acx,NS,aeO⟩:=Jg E_ a2
     obtain ⟨B_,agB,Lt,acy,adD,aeP⟩:=Jg Fa cf
     have dp:H5≠B_:=Qh zn EL EM zw zx bJ ct E_ Fa acx acy
     have DS:=aeP rr.h (by rw [NS,af.c8,if_neg dp])
     have wh:=aeO (rr.h.set B_ Lt) (by rw [af.c8,if_neg (fun e=>dp e.symm)])
     have WC:(rr.h.set B_ Lt).set H5 YO=bc:=by rw [af.set_comm _ (fun e=>dp e.symm),←NS,←adD]
     rw [WC] at wh
     rw [a3] at DS cf
     have r8:eI=rr.r:=gx.trans a3
     have Xp:∀m,m<ops.size→(posOf ay m<N↔(m≠km∧m≠l3∧m≠nW)):=by
      intro m hm
      have KN:=(gS m hm).1
      constructor
      · intro h
        exact ⟨fun e=>by subst e;omega,fun e=>by subst e;omega,fun e=>by subst e;omega⟩
      · rintro ⟨cn,cr,gr⟩
        have yC:posOf ay m≠N:=fun e=>cn (inj m km hm p0 (by rw [e,tE]))
        have bE:posOf ay m≠N+1:=fun e=>cr (inj m l3 hm tA (by rw [e,tB]))
        have bR:posOf ay m≠N+2:=fun e=>gr (inj m nW hm mG (by rw [e,tC]))
        omega
     have WA:dC P ops[l3]=true:=by unfold dC fv;rw [abV];rfl
     have ua:∀t ∈ bQ ops ops[nW],T.get .bad (aq t) rr.r=T.get .bad (aq t) Dt.r:=by
      intro t aA
      have ue:t≤top:=Nat.le_of_ble_eq_true (List.all_eq_true.1 (iL cf).2 t aA)
      rw [w_,JZ (iL ho).1 ue,if_neg (Gs t aA)]
     have gC:∀i o,ops[i]? =some o→posOf ay i<N→∃e,(es.take N)[posOf ay i]? =some e∧(cd P an ops o).run call e.r e.h=.val e.v (bY (es.take N) (bY es bc N) (posOf ay i+1))∧dH (es.take N) (dH es eI N) (posOf ay i+1)=(eR o.dst).run e.r e.v:=by
      intro i o aS aD
      obtain ⟨e,cj,z2,z3⟩:=bG _ o (k4 (gS i (Array.getElem?_eq_some_iff.1 aS).1).2 aS)
      refine ⟨e,by simp [aD,cj],?_,?_⟩
      · rw [D9 (by omega)];exact z2
      · rw [NB (by omega)];exact z3
     have C:Cert P an ops (fun _=>call) (es.take N) r h (dH es eI N) (bY es bc N) (N::gq P ay 0 ops.toList) order ay N N false:=
      ⟨by simp [hlen];omega,by omega,Nat.le_refl _,gS,jw,by rw [D9 (Nat.zero_le _)];exact aC,by rw [NB (Nat.zero_le _)];exact aM,gC,
        fun i o aS=>by
         obtain ⟨cq,cj,z2,z3,_⟩:=fU i o aS
         exact ⟨cq,cj,z2,fun aD k ok ax Em=>by
          obtain ⟨mk,et,f_,y3⟩:=z3 aD k ok ax Em
          exact ⟨mk,et,f_,fun a b c=>.inl (y3 a b c)⟩⟩,
        by simp,
        fun j o aa ae=>List.mem_cons_of_mem _ (by simpa using uz (ay:=ay) (i:=0) (j:=j) (l:=ops.toList) (by simpa using aa) ae),
        fun s aQ=>by
         rcases List.mem_cons.1 aQ with rfl | aQ
         · exact .inl (.inr ⟨rfl,rfl⟩)
         · rcases qj aQ with h | ⟨j,o,aa,ae,aI⟩
           · exact .inl (.inl (by simpa using h))
           · exact .inr ⟨j,o,by simpa using aa,ae,by simpa using aI⟩,
        fun j o aa ae aI bo=>by
         obtain ⟨e,g1,_⟩:=gC j o aa bo
         have KZ:=B4 wi j o (by simpa using aa) ae aI e (by simpa using g1)
         refine ⟨e,g1,fun s aQ hm=>?_⟩
         rcases List.mem_cons.1 aQ with rfl | aQ
         · have kT:pa P (d_ [] ops.toList) ops.toList ay j (((d_ [] ops.toList)[j]?).getD 0) (s+1)=true:=by
            unfold pa at hm ⊢
            refine Hk (by rw [FF];simp) fun cM mk ok et f_=>?_
            obtain ⟨mk',bs,ch⟩:=np hm cM ok f_
            rw [et] at bs;cases bs
            simp only [Nat.zero_add] at ch ⊢
            have bu:ops[cM]? =some ok:=by simpa using f_
            have lX:=(Array.getElem?_eq_some_iff.1 bu).1
            by_cases nO:posOf ay cM=s
            · have:cM=km:=inj cM km lX p0 (by rw [nO,tE])
              subst this
              rw [wA] at bu;cases bu
              have Xr:dC P ops[cM]=false:=by unfold dC;rw [Jp];rfl
              rw [Xr]
              rfl
            · have:Nat.blt (posOf ay cM) (s+1)=Nat.blt (posOf ay cM) s:=by
               rw [Bool.eq_iff_iff,Nat.blt_eq,Nat.blt_eq]
               omega
              rw [this]
              exact ch
           have tS:s+1 ∈ gq P ay 0 ops.toList:=by rw [←tB];simpa using uz (P:=P) (ay:=ay) (i:=0) (j:=l3) (l:=ops.toList) (by simp) WA
           obtain ⟨ab,g3⟩:=KZ (s+1) tS (by simpa using kT)
           refine ⟨call,ab,⟨cw,c9⟩,?_⟩
           have aN:bY (es.take s) (bY es bc s) (s+1)=bY es bc s:=by
            have:(es.take s)[s+1]? =none:=List.getElem?_eq_none (by simp;omega)
            simp only [bY,this]
           have bf:bY (es.take s) (bY es bc s) s=bY es bc s:=D9 (Nat.le_refl _)
           rw [aN] at g3
           rw [bf]
           exact g3
         · obtain ⟨ab,g3⟩:=KZ s aQ (by simpa using hm)
           exact ⟨call,ab,⟨cw,c9⟩,g3⟩,
        fun _=>⟨rfl,fun cM ok mk ax h8 EB j bB wB=>by
         obtain ⟨cq,cj,z2,_⟩:=uc cM ok ax (by omega)
         rw [EB] at cj;cases cj
         exact z2 j bB wB⟩,
        fun aa ae=>by omega⟩
     refine Dp cE bx cw c9 k s C (fun h=>by omega) (fun _ _ _ _ _ _ _ _ h=>by omega) (fun _ fuel listed ao bg aj g1 g2 g3 g4 g5 g6 g7=>?_)
     rw [ac7] at g6
     rw [Wg] at g7
     rw [Wd] at a2 DS wh
     refine aeu bx cw c9 (fun i o aS=>by obtain ⟨cq,_,z2,_⟩:=fU i o aS;exact z2) wA zw zx (fun e=>by rw [e] at tE;omega) (fun e=>by rw [e] at tE;omega) (fun e=>by rw [e] at tB;omega) I5 I6
      DU w_ ua a2 cf DS wh g6 g7 (fun bX a2 bM bW b3 dv=>ag bX a2 bM (g5.trans bW) (by rw [r8];exact b3) dv) g2 g3 (fun cq kf=>by rw [KB] at kf;cases kf;exact aw) ⟨abm,KB⟩ (fun m hm=>(g4 m hm).trans (Xp m hm)) fuel ?_
     have Dh:∀(L:Array Bool) (x:Nat),L.size=ops.size→x<ops.size→¬L.getD x false=true→(List.range ops.size).countP (fun k=>!(L.setIfInBounds x true).getD k false) < (List.range ops.size).countP (fun k=>!L.getD k false):=by
      intro L x dW al aV
      have uj:x<L.size:=by rw [dW];exact al
      refine yJ (fun k=>!L.getD k false) (fun k=>!(L.setIfInBounds x true).getD k false) (List.range ops.size) (fun k _ ax=>?_) ⟨x,List.mem_range.2 al,?_,?_⟩
      · simp only [Bool.not_eq_true'] at ax ⊢
        cases az:L.getD k false with
        | false=>rfl
        | true=>
          have:=(eU (k:=k) uj).2 (.inr az)
          rw [ax] at this
          cases this
      · cases az:L.getD x false with
        | false=>rfl
        | true=>exact absurd az aV
      · have:=(eU (k:=x) uj).2 (.inl rfl)
        simp [this]
     have aby:¬listed.getD km false=true:=fun h=>by have:=(g4 km p0).1 h;omega
     have abw:¬listed.getD l3 false=true:=fun h=>by have:=(g4 l3 tA).1 h;omega
     have abx:¬listed.getD nW false=true:=fun h=>by have:=(g4 nW mG).1 h;omega
     have bE:=Dh listed km g2 p0 aby
     have bR:=Dh (listed.setIfInBounds km true) l3 (by simp [g2]) tA (fun h=>by
      rcases (eU (by rw [g2];exact p0)).1 h with e | h
      · rw [e] at tB;omega
      · exact abw h)
     have c3:=Dh ((listed.setIfInBounds km true).setIfInBounds l3 true) nW (by simp [g2]) mG (fun h=>by
      rcases (eU (by simp [g2];exact tA)).1 h with e | h
      · rw [e] at tC;omega
      · rcases (eU (by rw [g2];exact p0)).1 h with e | h
        · rw [e] at tC;omega
        · exact abx h)
     omega
end
end Go.Proofs.YthemdhlheglhoaaGreatDoor.a6
namespace Go.Proofs.YthemdhlheglhoaaGreatDoor.a6
variable [Lay]
open Go Go.RowKit
section
variable {P:Program} {an:Nat} {ops:Array Oper} {call:dd}
inductive mw {α β:Type} (R:α→β→Prop):List α→List β→Prop
 | nil:mw R [] []
 | cons {a:α} {b:β} {Fz:List α} {FA:List β} (h:R a b) (t:mw R Fz FA):mw R (a::Fz) (b::FA)
def sy (ops:Array Oper) (t:Nat) (listed:Array Bool):Option Nat:=(Region.ready .any ops listed)[t % (Region.ready .any ops listed).length]?
theorem go_succ (fuel t:Nat) (listed:Array Bool):Region.linearise.go .any ops (fuel+1) t listed []=match sy ops t listed with
 | some i=>i::Region.linearise.go .any ops fuel (t / (Region.ready .any ops listed).length) (listed.setIfInBounds i true) []
 | none=>[]:=by
 simp only [Region.linearise.go]
 change (match (Region.ready .any ops listed)[t % (Region.ready .any ops listed).length]? with
  | some i=>Region.linearise.go .any ops fuel (t / (Region.ready .any ops listed).length) (listed.setIfInBounds i true) [i]
  | none=>[].reverse)=_
 unfold sy
 cases (Region.ready .any ops listed)[t % (Region.ready .any ops listed).length]? with
 | none=>rfl
 | some i=>
   simp only
   rw [linearise_go_acc,List.reverse_singleton,List.singleton_append]
theorem Ny {t:Nat} {listed:Array Bool} (h:sy ops t listed=none):Region.ready .any ops listed=[]:=by
 unfold sy at h
 cases aG:Region.ready .any ops listed with
 | nil=>rfl
 | cons x xs=>
   rw [aG] at h
   have aP:t % (x::xs).length < (x::xs).length:=Nat.mod_lt _ (by simp)
   rw [List.getElem?_eq_getElem aP] at h
   cases h
theorem Gw {t i:Nat} {listed:Array Bool} (h:sy ops t listed=some i):i ∈ Region.ready .any ops listed:=List.mem_of_getElem? h
theorem count_set {listed:Array Bool} {i:Nat} (b5:listed.size=ops.size) (aD:i<ops.size) (aV:¬listed.getD i false=true):
 (List.range ops.size).countP (fun k=>!(listed.setIfInBounds i true).getD k false) < (List.range ops.size).countP (fun k=>!listed.getD k false):=by
 have ai:i<listed.size:=by rw [b5];exact aD
 refine yJ (fun k=>!listed.getD k false) (fun k=>!(listed.setIfInBounds i true).getD k false) (List.range ops.size) (fun k _ ax=>?_) ⟨i,List.mem_range.2 aD,?_,?_⟩
 · simp only [Bool.not_eq_true'] at ax ⊢
   cases az:listed.getD k false with
   | false=>rfl
   | true=>
     have:=(eU (k:=k) ai).2 (.inr az)
     rw [ax] at this
     cases this
 · cases az:listed.getD i false with
   | false=>rfl
   | true=>exact absurd az aV
 · have:=(eU (k:=i) ai).2 (.inl rfl)
   simp [this]
theorem J2 (g':∀i o,ops[i]? =some o→kt i o=true):∀(fuel t:Nat) (listed:Array Bool),listed.size=ops.size→(List.range ops.size).countP (fun i=>!listed.getD i false)≤fuel→
 (Region.linearise.go .any ops fuel t listed []).Nodup∧(∀k ∈ Region.linearise.go .any ops fuel t listed [],k<ops.size∧¬listed.getD k false=true)∧
  ∀k,k<ops.size→listed.getD k false=true∨k ∈ Region.linearise.go .any ops fuel t listed []
 | 0,t,listed,b5,aF=>by
   have e:Region.linearise.go .any ops 0 t listed []=[]:=rfl
   rw [e]
   refine ⟨List.nodup_nil,fun k ax=>by simp at ax,fun k ax=>.inl ?_⟩
   have a_:(List.range ops.size).countP (fun i=>!listed.getD i false)=0:=by omega
   rw [List.countP_eq_zero] at a_
   simpa using a_ k (List.mem_range.2 ax)
 | fuel+1,t,listed,b5,aF=>by
   rw [go_succ]
   cases aG:sy ops t listed with
   | none=>
     simp only
     exact ⟨List.nodup_nil,fun k ax=>by simp at ax,fun k ax=>.inl (uS g' b5 (Ny aG) k ax)⟩
   | some i=>
     simp only
     obtain ⟨i1,i2⟩:=sz b5 (Gw aG)
     have ai:i<listed.size:=by rw [b5];exact i1
     have:=count_set b5 i1 i2
     obtain ⟨g1,g2,g3⟩:=J2 g' fuel (t / (Region.ready .any ops listed).length) (listed.setIfInBounds i true) (by simp [b5]) (by omega)
     refine ⟨List.nodup_cons.2 ⟨fun hm=>(g2 i hm).2 ((eU ai).2 (.inl rfl)),g1⟩,fun k ax=>?_,fun k ax=>?_⟩
     · rcases List.mem_cons.1 ax with rfl | ax
       · exact ⟨i1,i2⟩
       · exact ⟨(g2 k ax).1,fun h=>(g2 k ax).2 ((eU ai).2 (.inr h))⟩
     · rcases g3 k ax with h | h
       · rcases (eU ai).1 h with rfl | h
         · exact .inr (by simp)
         · exact .inl h
       · exact .inr (by simp [h])
theorem A7 {o:Oper} {os:List Oper} {r:bt} {h:af} {es:List ec} {cB:bt} {av:af} (he:(eP P an ops (o::os)).run call r h=.ok es cB av):
 ∃v aa gi,(cd P an ops o).run call r h=.val v aa∧(eP P an ops os).run call ((eR o.dst).run r v) aa=.ok gi cB av∧es=⟨r,h,v⟩::gi:=by
 simp only [eP,xM] at he
 cases aa:(cd P an ops o).run call r h with
 | fail=>rw [aa] at he;cases he
 | cp _ _=>rw [aa] at he;simp only at he;cases hm:j1 o.op<;>rw [hm] at he<;>cases he
 | val v bc=>
   rw [aa] at he
   simp only at he
   cases ae:(eP P an ops os).run call ((eR o.dst).run r v) bc with
   | fail=>rw [ae] at he;cases he
   | cp _ _ _ _ _=>rw [ae] at he;cases he
   | ok gi bw aI=>
     rw [ae] at he
     simp only [ns.ok.injEq] at he
     obtain ⟨rfl,rfl,rfl⟩:=he
     exact ⟨v,bc,gi,rfl,ae,rfl⟩
theorem A8 {o:Oper} {os:List Oper} {r:bt} {h aa:af} {v:V} {gi:List ec} {cB:bt} {av:af} (a_:(cd P an ops o).run call r h=.val v aa) (ae:(eP P an ops os).run call ((eR o.dst).run r v) aa=.ok gi cB av):
 (eP P an ops (o::os)).run call r h=.ok (⟨r,h,v⟩::gi) cB av:=by
 simp only [eP,xM,a_,ae]
theorem G0:∀(fb ho:List Oper) {r:bt} {h:af} {es:List ec} {cB:bt} {av:af},(eP P an ops (fb++ho)).run call r h=.ok es cB av→
 ∃gi bw aa nB,(eP P an ops fb).run call r h=.ok gi bw aa∧(eP P an ops ho).run call bw aa=.ok nB cB av∧es=gi++nB
 | [],ho,r,h,es,cB,av,he=>⟨[],r,h,es,rfl,he,rfl⟩
 | o::os,ho,r,h,es,cB,av,he=>by
   obtain ⟨v,aa,gi,au,aC,rfl⟩:=A7 he
   obtain ⟨DC,bw,aI,nB,g1,g2,rfl⟩:=G0 os ho aC
   exact ⟨⟨r,h,v⟩::DC,bw,aI,nB,A8 au g1,g2,rfl⟩
theorem G1:∀(fb ho:List Oper) {r bw cB:bt} {h aa av:af} {gi nB:List ec},(eP P an ops fb).run call r h=.ok gi bw aa→(eP P an ops ho).run call bw aa=.ok nB cB av→
 (eP P an ops (fb++ho)).run call r h=.ok (gi++nB) cB av
 | [],ho,r,bw,cB,h,aa,av,gi,nB,he,ae=>by
   simp only [eP,ns.ok.injEq] at he
   obtain ⟨rfl,rfl,rfl⟩:=he
   exact ae
 | o::os,ho,r,bw,cB,h,aa,av,gi,nB,he,ae=>by
   obtain ⟨v,aI,DC,au,aC,rfl⟩:=A7 he
   exact A8 au (G1 os ho aC ae)
theorem xq:∀(a b:List Nat),fX ops (a++b)=fX ops a++fX ops b
 | [],b=>rfl
 | x::xs,b=>by simp [fX,xq xs b]
theorem Nu:∀(l:List Oper),(∀o ∈ l,eh P o.op=false∧looks o.op=false)→∀{r cB:bt} {h av:af} {es:List ec},(eP P an ops l).run call r h=.ok es cB av→
 av=h∧∀H:af,∃h6,(eP P an ops l).run call r H=.ok h6 cB H
 | [],_,r,cB,h,av,es,he=>by
   simp only [eP,ns.ok.injEq] at he
   obtain ⟨rfl,rfl,rfl⟩:=he
   exact ⟨rfl,fun H=>⟨[],rfl⟩⟩
 | o::os,az,r,cB,h,av,es,he=>by
   obtain ⟨v,aa,gi,au,aC,rfl⟩:=A7 he
   obtain ⟨aN,bf⟩:=az o (by simp)
   obtain ⟨d1,d2⟩:=rn aN au
   subst d1
   obtain ⟨g1,g2⟩:=Nu os (fun bU gj=>az bU (by simp [gj])) aC
   refine ⟨g1,fun H=>?_⟩
   obtain ⟨h6,g3⟩:=g2 H
   exact ⟨_,A8 (d2 bf H) g3⟩
theorem w3 {o:Oper} {A:sU} (h:jW o=some A):o.op=.insert A.t A.m A.k A.x∧o.dst=none∧o.guard=none:=by
 unfold jW at h
 split at h
 case h_2=>cases h
 rename_i t m k x aS
 split at h
 case h_2=>cases h
 rename_i a1
 split at h
 case h_2=>cases h
 rename_i aE
 cases h
 exact ⟨aS,a1,aE⟩
theorem Nk {e:db} {k v:V} {c:Nat}:∀{es:List cx},(∀m ∈ es,e.run k m.k=some false)→j4 e k v c es=some (es++[⟨k,v,c⟩],true)
 | [],_=>rfl
 | m::ms,h=>by
   simp only [j4,h m (by simp),cond_false,Nk (es:=ms) fun cX kT=>h cX (by simp [kT]),List.cons_append]
theorem UE {o:Oper} {A:sU} (tQ:w9 P A.t=true) (jM:jW o=some A) {r:bt} {H1 cR:af} {v:V} (he:(cd P an ops o).run call r H1=.val v cR) {b:aO} (ah:(bD A.m).run (c6 r (bQ ops o))=.map b):
 ∀(H:af) es c,H.get b=.mp es c→(∀m ∈ es,(qg P A.t).run ((bD A.k).run (c6 r (bQ ops o))) m.k=some false)→
  (cd P an ops o).run call r H=.val .bad (H.set b (.mp (es++[⟨(bD A.k).run (c6 r (bQ ops o)),(bD A.x).run (c6 r (bQ ops o)),c⟩]) (c+1))):=by
 obtain ⟨aS,a1,aE⟩:=w3 jM
 obtain ⟨aa,ae⟩:=iL he
 have key:cd P an ops o=⟨hx none (eD P o) (bQ ops o)⟩:=by
  unfold cd
  rw [show (eG an o.dst&&i_ (bQ ops o))=true from by rw [aa,ae];rfl,aE]
  rfl
 rw [key] at he ⊢
 simp only [hx] at he ⊢
 have rL:∀H,(eD P o).run call (c6 r (bQ ops o)) H=fY .bad ((mr P A.t).run H (.map b) ((bD A.k).run (c6 r (bQ ops o))) ((bD A.x).run (c6 r (bQ ops o)))):=by
  intro H
  unfold eD
  rw [aS]
  simp only [ah]
 rw [rL] at he
 have X6:mr P A.t=⟨lG (qg P A.t)⟩:=by
  cases aQ:(mr P A.t).run H1 (.map b) ((bD A.k).run (c6 r (bQ ops o))) ((bD A.x).run (c6 r (bQ ops o))) with
  | none=>rw [aQ] at he;cases he
  | some aI=>
    unfold mr at aQ ⊢
    unfold qg
    cases aA:aX P A.t with
    | none=>rw [aA] at aQ;cases aQ
    | some aK=>
      rw [aA] at aQ
      simp only at aQ ⊢
      cases bF:aK.a'<;>rw [bF] at aQ<;>simp only at aQ ⊢<;>try (cases aQ;done)
      rename_i b' iN
      cases lp:aX P b' with
      | none=>rw [lp] at aQ;cases aQ
      | some gp=>
        rw [lp] at aQ
        simp only at aQ ⊢
        cases av:lr gp.a' with
        | false=>
          unfold w9 at tQ
          rw [aA] at tQ
          simp only [bF,lp,av] at tQ
          cases tQ
        | true=>rfl
 intro H es c jm ax
 rw [rL,X6]
 simp only [lG,jm,b1.jv,Nk ax,fY,cond_true]
theorem YC {o:Oper} {r:bt} {b:aO} {m:cx} (h:qe ops r b o=some m):∃A,jW o=some A∧(bD A.m).run (c6 r (bQ ops o))=.map b∧m.k=(bD A.k).run (c6 r (bQ ops o))∧m.v=(bD A.x).run (c6 r (bQ ops o)):=by
 unfold qe at h
 cases br:jW o with
 | none=>rw [br] at h;cases h
 | some A=>
   rw [br] at h
   simp only at h
   cases hm:(bD A.m).run (c6 r (bQ ops o))<;>rw [hm] at h<;>simp only at h<;>try (cases h;done)
   obtain ⟨aF,aa⟩:=dR h
   have:=aO.jK aF
   subst this
   cases aa
   exact ⟨A,rfl,hm,rfl,rfl⟩
def je (ops:Array Oper) (r:bt) (b:aO) (i:Nat) (m:cx):Prop:=∃o,ops[i]? =some o∧qe ops r b o=some m
theorem je.Dk {r:bt} {b:aO} {i:Nat} {m cX:cx} (h:je ops r b i m) (ab:je ops r b i cX):m=cX:=by
 obtain ⟨o,aa,ae⟩:=h
 obtain ⟨bU,aI,bo⟩:=ab
 rw [aa] at aI;cases aI
 rw [ae] at bo;cases bo
 rfl
theorem zT {r:bt} {b:aO}:∀{is:List Nat} {ms:List cx},sf ops r b is=some ms→mw (je ops r b) is ms
 | [],ms,h=>by simp only [sf,Option.some.injEq] at h;subst h;exact .nil
 | i::is,ms,h=>by
   simp only [sf] at h
   cases aS:ops[i]? with
   | none=>rw [aS] at h;cases h
   | some o=>
     rw [aS] at h
     simp only at h
     cases hm:qe ops r b o with
     | none=>rw [hm] at h;cases h
     | some m=>
       rw [hm] at h
       simp only at h
       cases aQ:sf ops r b is with
       | none=>rw [aQ] at h;cases h
       | some agu=>
         rw [aQ] at h
         simp only [Option.some.injEq] at h
         subst h
         exact .cons ⟨o,aS,hm⟩ (zT aQ)
theorem Lp {x:Option Bool} (h:isFalse x=true):x=some false:=by
 cases x with
 | none=>cases h
 | some b=>cases b<;>simp_all [isFalse]
theorem BZ {e:db} {m:cx}:∀{ms:List cx},ym e m ms=true→∀cX ∈ ms,e.run m.k cX.k=some false∧e.run cX.k m.k=some false
 | [],_,cX,h=>by simp at h
 | x::xs,h,cX,hm=>by
   simp only [ym,Bool.and_eq_true] at h
   rcases List.mem_cons.1 hm with rfl | hm
   · exact ⟨Lp h.1,Lp h.2.1⟩
   · exact BZ h.2.2 cX hm
theorem HT {r:bt} {b:aO} {e:db}:∀{is:List Nat} {ms:List cx},mw (je ops r b) is ms→is.Nodup→vJ e ms=true→∀i j m cX,i ∈ is→j ∈ is→i≠j→je ops r b i m→je ops r b j cX→e.run m.k cX.k=some false
 | _,_,.nil,_,_,i,_,_,_,aD,_,_,_,_=>by simp at aD
 | _,_,.cons (a:=x) (b:=dm) (Fz:=xs) (FA:=abv) a_ aA,aV,br,i,j,m,cX,aD,bB,kQ,hm,kT=>by
   simp only [vJ,Bool.and_eq_true] at br
   rw [List.nodup_cons] at aV
   have Ld:∀k n,k ∈ xs→je ops r b k n→n ∈ abv:=by
    intro k n ax Xe
    have gen:∀{is:List Nat} {ms:List cx},mw (je ops r b) is ms→k ∈ is→n ∈ ms:=by
     intro is ms av
     induction av with
     | nil=>intro ax;simp at ax
     | cons aa _ bh=>
       intro ax
       rcases List.mem_cons.1 ax with rfl | ax
       · rw [Xe.Dk aa];simp
       · exact List.mem_cons_of_mem _ (bh ax)
    exact gen aA ax
   rcases List.mem_cons.1 aD with Ku | aD
   · rcases List.mem_cons.1 bB with El | bB
     · exact absurd (Ku.trans El.symm) kQ
     · rw [Ku] at hm
       rw [hm.Dk a_]
       exact (BZ br.1 cX (Ld j cX bB kT)).1
   · rcases List.mem_cons.1 bB with El | bB
     · rw [El] at kT
       rw [kT.Dk a_]
       exact (BZ br.1 m (Ld i m aD hm)).2
     · exact HT aA aV.2 br.2 i j m cX aD bB kQ hm kT
theorem Fm {hG:bt} {b:aO} {e:db} {I:List Nat} (oS:∀i ∈ I,∃o A m,ops[i]? =some o∧jW o=some A∧(w9 P A.t=true∧qg P A.t=e)∧qe ops hG b o=some m∧∃v H1 cR,(cd P an ops o).run call hG H1=.val v cR)
 (gY:∀i j m cX,i ∈ I→j ∈ I→i≠j→je ops hG b i m→je ops hG b j cX→e.run m.k cX.k=some false):
 ∀(τ:List Nat) (done:List Nat) (ds:List cx) (c:Nat) (H:af),(∀i ∈ τ,i ∈ I)→(∀i ∈ done,i ∈ I)→(done++τ).Nodup→(∀m ∈ ds,∃i ∈ done,∃cX,je ops hG b i cX∧m.k=cX.k)→H.get b=.mp ds c→
  ∃es ms gf jC,(eP P an ops (fX ops τ)).run call hG H=.ok es hG jC∧jC.get b=.mp (ds++ms) gf∧(∀k,b≠k→jC.get k=H.get k)∧(∀k,jC.set b k=H.set b k)∧(∀e ∈ es,∀k,b≠k→e.h.get k=H.get k)∧
   mw (fun i (m:cx)=>∃cX,je ops hG b i cX∧m.k=cX.k∧m.v=cX.v) τ ms
 | [],done,ds,c,H,_,_,_,_,jm=>⟨[],[],c,H,rfl,by rw [List.append_nil];exact jm,fun _ _=>rfl,fun _=>rfl,fun e he=>by simp at he,.nil⟩
 | i::τ,done,ds,c,H,zP,Kl,lZ,tL,jm=>by
   obtain ⟨o,A,m,aS,jM,⟨tQ,rW⟩,hm,v,H1,cR,cA⟩:=oS i (zP i (by simp))
   obtain ⟨ik,J9,ah,ax,al⟩:=YC hm
   rw [jM] at J9;cases J9
   have nQ:i ∉ done:=fun h=>by
    rw [List.nodup_append] at lZ
    exact lZ.2.2 i h i (by simp) rfl
   have gC:=UE tQ jM cA ah H ds c jm (fun cX kT=>by
    obtain ⟨j,bB,abq,WT,Xd⟩:=tL cX kT
    rw [Xd,rW,←ax]
    exact gY i j m abq (zP i (by simp)) (Kl j bB) (fun e=>nQ (e ▸ bB)) ⟨o,aS,hm⟩ WT)
   obtain ⟨_,a1,_⟩:=w3 jM
   obtain ⟨es,ms,gf,jC,g1,g2,g3,g4,g6,g5⟩:=Fm oS gY τ (done++[i]) (ds++[⟨(bD A.k).run (c6 hG (bQ ops o)),(bD A.x).run (c6 hG (bQ ops o)),c⟩]) (c+1)
    (H.set b (.mp (ds++[⟨(bD A.k).run (c6 hG (bQ ops o)),(bD A.x).run (c6 hG (bQ ops o)),c⟩]) (c+1))) (fun j bB=>zP j (by simp [bB]))
    (fun j bB=>by
      rcases List.mem_append.1 bB with h | h
      · exact Kl j h
      · simp only [List.mem_singleton] at h;subst h;exact zP j (by simp)) (by simpa using lZ)
    (fun cX kT=>by
      rcases List.mem_append.1 kT with h | h
      · obtain ⟨j,bB,r⟩:=tL cX h
        exact ⟨j,by simp [bB],r⟩
      · simp only [List.mem_singleton] at h;subst h
        exact ⟨i,by simp,m,⟨o,aS,hm⟩,ax.symm⟩) (by rw [af.c8,if_pos rfl])
   have KX:=A8 (os:=fX ops τ) gC (by rw [a1];exact g1)
   rw [show o::fX ops τ=fX ops (i::τ) from by simp [fX,aS]] at KX
   refine ⟨_,⟨(bD A.k).run (c6 hG (bQ ops o)),(bD A.x).run (c6 hG (bQ ops o)),c⟩::ms,gf,jC,KX,by rw [g2,List.append_assoc];rfl,fun k ax=>?_,fun k=>?_,fun c0 d' k ax=>?_,.cons ⟨m,⟨o,aS,hm⟩,ax.symm,al.symm⟩ g5⟩
   · rw [g3 k ax,af.c8,if_neg ax]
   · rw [g4]
     unfold af.set
     simp only [T.No]
   · rcases List.mem_cons.1 d' with rfl | d'
     · rfl
     · rw [g6 c0 d' k ax,af.c8,if_neg ax]
def nu (E:Env):List (V × V)→List MapEntry→Prop
 | [],l=>l=[]
 | p::ba,l=>∃e es,l=e::es∧Rel E p.1 e.key∧Rel E p.2 e.val∧nu E ba es
theorem nu.perm {E:Env} {ba ig:List (V × V)} (h:ba.Perm ig):∀{l:List MapEntry},nu E ig l→∃dD,nu E ba dD∧dD.Perm l:=by
 induction h with
 | nil=>intro l h;exact ⟨l,h,.refl _⟩
 | cons x _ bh=>
   intro l h
   obtain ⟨e,es,rfl,aa,ae,aI⟩:=h
   obtain ⟨dD,g1,g2⟩:=bh aI
   exact ⟨e::dD,⟨e,dD,rfl,aa,ae,g1⟩,g2.cons e⟩
 | swap x y h2=>
   intro l h
   obtain ⟨e,es,rfl,aa,ae,c0,h6,rfl,aI,bo,cI⟩:=h
   exact ⟨c0::e::h6,⟨c0,_,rfl,aI,bo,e,h6,rfl,aa,ae,cI⟩,List.Perm.swap _ _ _⟩
 | trans _ _ Fh Fi=>
   intro l h
   obtain ⟨fb,g1,g2⟩:=Fi h
   obtain ⟨ho,g3,g4⟩:=Fh g1
   exact ⟨ho,g3,g4.trans g2⟩
theorem nu.Mx {E:Env}:∀{ms:List cx} {l:List MapEntry},dQ E ms l→nu E (ms.map fun m=>(m.k,m.v)) l
 | [],l,h=>h
 | m::ms,l,h=>by
   obtain ⟨e,es,rfl,aa,ae,_,bo⟩:=h
   exact ⟨e,es,rfl,aa,ae,nu.Mx bo⟩
theorem lg.My {E:Env}:∀{ms:List cx} {l:List MapEntry},nu E (ms.map fun m=>(m.k,m.v)) l→lg E ms l
 | [],l,h=>h
 | m::ms,l,h=>by
   obtain ⟨e,es,rfl,aa,ae,bo⟩:=h
   exact ⟨e,es,rfl,aa,ae,lg.My bo⟩
theorem aY.forget {ar:Fr} {E:Env} {h:af} {w:World} (s:aY ar E h w) {b:aO} {p:hJ} {es ms:List cx} {c:Nat} (aE:h.get b=.mp es c) (ag:E b=some p) (fE:(ms.map fun m=>(m.k,m.v)).Perm (es.map fun m=>(m.k,m.v))):
 aY ar E (h.set b (.hU ms)) w:=by
 have ah:=s.at ag
 rw [aE] at ah
 obtain ⟨p',a,e8,cJ,bc,hm⟩:=ah
 rw [ag] at e8;cases e8
 obtain ⟨l,g1,g2⟩:=nu.perm fE (nu.Mx hm)
 exact s.set (by rw [aE];rfl) ag cJ (Nat.le_refl _) (fun _ _=>rfl) rfl rfl rfl (fun _ _ _ e=>by cases e) ⟨p,a,c,l,ag,cJ,bc,lg.My g1,g2⟩
theorem Ll:∀(l:List Oper),(∀o ∈ l,o.dst=none)→∀{r cB:bt} {h av:af} {es:List ec},(eP P an ops l).run call r h=.ok es cB av→∀o ∈ l,∃v H1 cR,(cd P an ops o).run call r H1=.val v cR
 | [],_,_,_,_,_,_,_,o,aS=>by simp at aS
 | x::xs,a1,r,cB,h,av,es,he,o,aS=>by
   obtain ⟨v,aa,gi,au,aC,rfl⟩:=A7 he
   rcases List.mem_cons.1 aS with rfl | aS
   · exact ⟨v,h,aa,au⟩
   · rw [a1 x (by simp)] at aC
     exact Ll xs (fun bU gj=>a1 bU (by simp [gj])) aC o aS
theorem abd {t:TypeId} {H H1:af} {c:aO} {off:Nat} (h:H.get c=H1.get c):(m_ P t).run H (.ptr c off)=(m_ P t).run H1 (.ptr c off):=by
 unfold m_
 cases aX P t with
 | none=>rfl
 | some aK=>
   simp only
   cases aK.agg with
   | true=>simp only [cond_true,kZ,V.hE,h]
   | false=>
     simp only [cond_false]
     cases Nat.beq aK.size 1 with
     | true=>simp only [cond_true,k0,V.hE,h]
     | false=>rfl
theorem UG {o:Oper} {t:TypeId} {x:Operand} (aS:o.op=.load t x) (aE:o.guard=none) {r:bt} {H1 ab:af} {v:V} (he:(cd P an ops o).run call r H1=.val v ab) {c:aO} {off:Nat} (al:(bD x).run (c6 r (bQ ops o))=.ptr c off)
 (H:af) (jm:H.get c=H1.get c):(cd P an ops o).run call r H=.val v H:=by
 obtain ⟨aa,ae⟩:=iL he
 have key:cd P an ops o=⟨hx none (eD P o) (bQ ops o)⟩:=by
  unfold cd
  rw [show (eG an o.dst&&i_ (bQ ops o))=true from by rw [aa,ae];rfl,aE]
  rfl
 rw [key] at he ⊢
 simp only [hx] at he ⊢
 have rL:∀H,(eD P o).run call (c6 r (bQ ops o)) H=aU.of H ((m_ P t).run H (.ptr c off)):=by
  intro H
  unfold eD
  rw [aS]
  simp only [al]
 rw [rL] at he ⊢
 rw [abd jm]
 exact aU.ss he H
theorem L7 {es:List ec} {h:af} {b:aO}:∀{is:List Nat} {p:Nat},xe P ops es h b call an is p=true→∀q i o t x,is[q]? =some i→ops[i]? =some o→o.op=.load t x→
 ∃e c off ab,es[p+q]? =some e∧(bD x).run (c6 e.r (bQ ops o))=.ptr c off∧c≠b∧o.guard=none∧(cd P an ops o).run call e.r h=.val e.v ab
 | [],_,_,q,i,o,t,x,h,_,_=>by simp at h
 | j::YN,p,ai,q,i,o,t,x,az,aS,ki=>by
   simp only [xe] at ai
   cases q with
   | succ q=>
     cases bB:ops[j]? with
     | none=>rw [bB] at ai;cases ai
     | some agC=>
       rw [bB] at ai
       simp only [Bool.and_eq_true] at ai
       have:=L7 ai.2 q i o t x (by simpa using az) aS ki
       rw [show p + (q+1)=p+1+q from by omega]
       exact this
   | zero=>
     simp only [List.getElem?_cons_zero,Option.some.injEq] at az
     subst az
     rw [aS] at ai
     simp only [Bool.and_eq_true] at ai
     have aa:=ai.1
     rw [ki] at aa
     simp only at aa
     rw [Nat.add_zero]
     cases he:es[p]? with
     | none=>rw [he] at aa;cases aa
     | some e=>
       rw [he] at aa
       simp only at aa
       cases al:(bD x).run (c6 e.r (bQ ops o))<;>rw [al] at aa<;>simp only at aa<;>try (cases aa;done)
       rename_i c off
       simp only [Bool.and_eq_true,Bool.not_eq_true'] at aa
       cases aE:o.guard with
       | some _=>rw [aE] at aa;cases aa.2
       | none=>
         rw [aE] at aa
         simp only at aa
         have ae:=aa.2
         cases aG:(cd P an ops o).run call e.r h with
         | fail=>rw [aG] at ae;cases ae
         | cp _ _=>rw [aG] at ae;cases ae
         | val v ab=>
           rw [aG] at ae
           have bn:=DB ae
           exact ⟨e,c,off,ab,rfl,al,(fun e=>by rw [e,aO.v'] at aa;cases aa.1),rfl,by rw [aG,bn]⟩
theorem uo {k:Nat}:∀{l:List Nat} {p:Nat},l.Nodup→l[p]? =some k→l.idxOf k=p
 | [],_,_,h=>by simp at h
 | x::xs,p,aV,h=>by
   rw [List.nodup_cons] at aV
   cases p with
   | zero=>
     simp only [List.getElem?_cons_zero,Option.some.injEq] at h
     subst h
     simp
   | succ p=>
     have al:xs[p]? =some k:=by simpa using h
     have dp:x≠k:=fun e=>aV.1 (e ▸ List.mem_of_getElem? al)
     rw [List.idxOf_cons]
     simp only [beq_iff_eq,dp,cond_false,show (x == k)=false from by simpa using dp]
     rw [uo aV.2 al]
def kn (ops:Array Oper) (i:Nat):Bool:=
 match ops[i]? with
 | some o=>jq o
 | none=>false
theorem zV {o:Oper} {A:sU} (h:jW o=some A):jq o=true∧eh P o.op=true∧fv o=false:=by
 obtain ⟨aS,_,_⟩:=w3 h
 refine ⟨by unfold jq;rw [aS],by rw [aS];rfl,by unfold fv;rw [aS]⟩
theorem aa8 {ay:List Nat} {cn cr:Nat} {t:TypeId} (av:xd P ops ay cn cr t=true):∀i o,ops[i]? =some o→∃cq,(d_ [] ops.toList)[i]? =some cq∧kt i o=true∧
 (∀k ok,ops[k]? =some ok→∃mk,(d_ [] ops.toList)[k]? =some mk∧mf i cq (bQ ops o) o.dst k mk ok (Nat.blt (posOf ay k) (posOf ay i))=true)∧
 (posOf ay i<cn→jq o=false∧dC P o=false∧(looks o.op=true→eh P o.op=false→∃t x,o.op=.load t x))∧
 (¬posOf ay i<cn→posOf ay i<cr→∃A,jW o=some A∧A.t=t)∧
 (¬posOf ay i<cn→¬posOf ay i<cr→eh P o.op=false∧looks o.op=false):=by
 unfold xd at av
 simp only [Bool.and_eq_true] at av
 replace av:=av.2
 intro i o aD
 obtain ⟨cq,aa,ae⟩:=np av i o (by simpa using aD)
 simp only [Nat.zero_add,Bool.and_eq_true] at ae
 obtain ⟨⟨aI,bo⟩,cI⟩:=ae
 refine ⟨cq,aa,aI,fun k ok ax=>?_,fun aP=>?_,fun h8 aP=>?_,fun h8 WZ=>?_⟩
 · obtain ⟨mk,bL,b0⟩:=np bo k ok (by simpa using ax)
   simp only [Nat.zero_add] at b0
   exact ⟨mk,bL,b0⟩
 · rw [show Nat.blt (posOf ay i) cn=true from by rw [Nat.blt_eq];exact aP] at cI
   simp only [cond_true,Bool.and_eq_true,Bool.not_eq_true',Bool.or_eq_true] at cI
   refine ⟨cI.1.1,cI.1.2,fun ai he=>?_⟩
   rcases cI.2 with (h | h) | h
   · rw [ai] at h;cases h
   · rw [he] at h;cases h
   · cases ki:o.op<;>rw [ki] at h<;>simp only at h<;>first
      | (cases h;done)
      | exact ⟨_,_,rfl⟩
 · rw [show Nat.blt (posOf ay i) cn=false from by rw [←Bool.not_eq_true,Nat.blt_eq];exact h8,show Nat.blt (posOf ay i) cr=true from by rw [Nat.blt_eq];exact aP] at cI
   simp only [cond_true,cond_false] at cI
   cases br:jW o with
   | none=>rw [br] at cI;cases cI
   | some A=>rw [br] at cI;exact ⟨A,rfl,Nat.eq_of_beq_eq_true cI⟩
 · rw [show Nat.blt (posOf ay i) cn=false from by rw [←Bool.not_eq_true,Nat.blt_eq];exact h8,show Nat.blt (posOf ay i) cr=false from by rw [←Bool.not_eq_true,Nat.blt_eq];exact WZ] at cI
   simp only [cond_false,Bool.and_eq_true,Bool.not_eq_true'] at cI
   exact cI
theorem aa9 {order:List Nat} {es:List ec} {cn:Nat} {b:aO} {hG:bt} {A:sU} (h:Ab ops order es cn=some (b,hG,A)):
 ∃e i o,es[cn]? =some e∧order[cn]? =some i∧ops[i]? =some o∧jW o=some A∧e.r=hG:=by
 unfold Ab at h
 cases he:es[cn]? with
 | none=>rw [he] at h;cases h
 | some e=>
   rw [he] at h
   simp only at h
   cases aD:order[cn]? with
   | none=>rw [aD] at h;cases h
   | some i=>
     rw [aD] at h
     simp only at h
     cases aS:ops[i]? with
     | none=>rw [aS] at h;cases h
     | some o=>
       rw [aS] at h
       simp only at h
       cases br:jW o with
       | none=>rw [br] at h;cases h
       | some ik=>
         rw [br] at h
         simp only at h
         cases hm:(bD ik.m).run (c6 e.r (bQ ops o))<;>rw [hm] at h<;>simp only at h<;>try (cases h;done)
         simp only [Option.some.injEq,Prod.mk.injEq] at h
         obtain ⟨_,ae,rfl⟩:=h
         exact ⟨e,i,o,rfl,rfl,aS,br,ae⟩
theorem Mf {r:bt} {b:aO} {f:Nat→V × V} (av:∀i m,je ops r b i m→f i=(m.k,m.v)):∀{is:List Nat} {ms:List cx},mw (fun i (m:cx)=>∃cX,je ops r b i cX∧m.k=cX.k∧m.v=cX.v) is ms→ms.map (fun m=>(m.k,m.v))=is.map f
 | _,_,.nil=>rfl
 | _,_,.cons (a:=i) (b:=m) a_ aA=>by
   obtain ⟨cX,aa,ae,aI⟩:=a_
   simp only [List.map_cons,Mf av aA,av i cX aa,ae,aI]
theorem uP {n:Nat} {order ay:List Nat} (fE:j3 n order ay=true) {p i:Nat} (h:order[p]? =some i):posOf ay i=p∧i<n:=by
 unfold j3 at fE
 simp only [Bool.and_eq_true,Nat.beq_eq] at fE
 obtain ⟨_,ae,_,bo⟩:=fE
 have:=qx bo h
 rw [Nat.zero_add] at this
 refine ⟨by unfold posOf;rw [this];rfl,?_⟩
 have:=(List.getElem?_eq_some_iff.1 this).1
 omega
theorem abN {l:List Nat} {f:Nat→Nat} (h:∀p i,l[p]? =some i→f i=p):l.Nodup:=by
 rw [List.Nodup,List.pairwise_iff_getElem]
 intro i j aD bB kQ he
 have aa:=h i _ (List.getElem?_eq_getElem aD)
 have ae:=h j _ (List.getElem?_eq_getElem bB)
 rw [he,ae] at aa
 omega
theorem mw.left {α β:Type} {R:α→β→Prop}:∀{fb:List α} {ho:List β},mw R fb ho→∀x ∈ fb,∃y ∈ ho,R x y
 | _,_,.nil,x,h=>by simp at h
 | _,_,.cons a_ aA,x,h=>by
   rcases List.mem_cons.1 h with rfl | h
   · exact ⟨_,by simp,a_⟩
   · obtain ⟨y,aa,ae⟩:=aA.left x h
     exact ⟨y,by simp [aa],ae⟩
theorem YJ {o:Oper} (h:jq o=true):eh P o.op=true∧fv o=false:=by
 unfold jq at h
 unfold fv
 cases aS:o.op<;>rw [aS] at h<;>simp only at h<;>first
  | (cases h;done)
  | exact ⟨rfl,rfl⟩
theorem aeD {pre σ post:List Nat} (lZ:(pre++(σ++post)).Nodup) (k q:Nat):(pre[q]? =some k→(pre++(σ++post)).idxOf k=q)∧(σ[q]? =some k→(pre++(σ++post)).idxOf k=pre.length+q)∧(post[q]? =some k→(pre++(σ++post)).idxOf k=pre.length+σ.length+q):=by
 refine ⟨fun h=>uo lZ ?_,fun h=>uo lZ ?_,fun h=>uo lZ ?_⟩
 · have:=(List.getElem?_eq_some_iff.1 h).1
   rw [List.getElem?_append_left this]
   exact h
 · have:=(List.getElem?_eq_some_iff.1 h).1
   rw [List.getElem?_append_right (by omega),Nat.add_sub_cancel_left,List.getElem?_append_left this]
   exact h
 · rw [List.getElem?_append_right (by omega),List.getElem?_append_right (by omega)]
   rw [show pre.length+σ.length+q-pre.length-σ.length=q from by omega]
   exact h
theorem aa_ {rd:Option Nat} {D:List Deferred} {ar:Fr} {calls:Nat→dd} {es:List ec} {bk:bt} {a_:af} {cB:bt} {av:af} {dO order ay:List Nat} (bx:ea P) (cw:∀i,fy P (calls i)) (c9:∀i,fI P (calls i))
 (C:Cert P an ops calls es bk a_ cB av dO order ay ops.size ops.size true) {fR:Env} {Q:Exit→Act→World→Prop}
 (cK:∀ao bg aj,fR.le ao→RegRel0 ao an cB bg→bg.defers=D→aY ar ao av aj→Q .normal bg aj) {kE:List Nat}
 (dq:∀i k,kn ops i=true→kn ops k=true→posOf ay k<posOf ay i→∀a b,kE=a++i::b→k ∈ a):
 ∀(fuel t:Nat) (listed:Array Bool) (done:List Nat) (a:Act) (w:World),kE=done++Region.linearise.go .any ops fuel t listed []→(∀k,k<ops.size→(listed.getD k false=true↔k ∈ done))→
  (List.range ops.size).countP (fun i=>!listed.getD i false)≤fuel→nr P ar an ops es bk av dO ay fR ops.size D listed a w→wpOpsIn (b8 rd) 0 P ops Q (Region.linearise.go .any ops fuel t listed []) a w:=by
 have g':∀i o,ops[i]? =some o→kt i o=true:=fun i o h=>by obtain ⟨_,_,ae,_⟩:=C.kL i o h;exact ae
 have fin:∀(listed:Array Bool) (a:Act) (w:World),(∀k,k<ops.size→listed.getD k false=true)→nr P ar an ops es bk av dO ay fR ops.size D listed a w→Q .normal a w:=by
  intro listed a w dL I
  obtain ⟨ao,g1,g2,g3,g4⟩:=Ja C (Nat.le_refl _) I fun k ax _=>dL k ax
  exact cK ao a w g1 g2 g3 g4
 intro fuel
 induction fuel with
 | zero=>
   intro t listed done a w mH Es aF I
   have a_:(List.range ops.size).countP (fun i=>!listed.getD i false)=0:=by omega
   rw [List.countP_eq_zero] at a_
   exact fin listed a w (fun k ax=>by simpa using a_ k (List.mem_range.2 ax)) I
 | succ fuel bh=>
   intro t listed done a w mH Es aF I
   rw [go_succ] at mH ⊢
   cases aG:sy ops t listed with
   | none=>exact fin listed a w (fun k ax=>uS g' I.o_ (Ny aG) k ax) I
   | some i=>
     rw [aG] at mH
     simp only at mH ⊢
     obtain ⟨i1,i2⟩:=sz I.o_ (Gw aG)
     have ai:i<listed.size:=by rw [I.o_];exact i1
     have af4:=count_set I.o_ i1 i2
     rw [wpOpsIn_cons]
     refine Jl bx cw c9 C I (Gw aG) (C.gS i i1).1 (fun _ o k ok b9 rU zz Xc aP=>?_) (fun bg aj Bq=>bh _ _ (done++[i]) bg aj (by rw [List.append_assoc];exact mH) (fun k ax=>?_) (by omega) Bq) (fun _ _ _ _ _ _ _ h=>absurd h (Nat.lt_irrefl _))
     · have ax:k<ops.size:=(Array.getElem?_eq_some_iff.1 zz).1
       exact (Es k ax).2 (dq i k (by unfold kn;rw [b9];exact rU) (by unfold kn;rw [zz];exact Xc) aP _ _ mH)
     · rw [eU ai,Es k ax,List.mem_append,List.mem_singleton]
       exact Or.comm
noncomputable def Dw (ops:Array Oper) (r:bt) (b:aO) (i:Nat):V × V:=
 match ops[i]? with
 | some o=>(match qe ops r b o with
   | some m=>(m.k,m.v)
   | none=>(.bad,.bad))
 | none=>(.bad,.bad)
theorem Jq {r:bt} {b:aO} {i:Nat} {m:cx} (h:je ops r b i m):Dw ops r b i=(m.k,m.v):=by
 obtain ⟨o,aa,ae⟩:=h
 unfold Dw
 rw [aa]
 simp only [ae]
theorem Mg {r:bt} {b:aO}:∀{is:List Nat} {ms:List cx},mw (je ops r b) is ms→ms.map (fun m=>(m.k,m.v))=is.map (Dw ops r b)
 | _,_,.nil=>rfl
 | _,_,.cons a_ aA=>by
   simp only [List.map_cons,Mg aA,Jq a_]
set_option maxHeartbeats 1000000 in
theorem abb {rd:Option Nat} {ar:Fr} {E:Env} {h:af} {w:World} {id:Nat} (cE:P.follows .mixedOrders=true) (bx:ea P) (cw:fy P call) (c9:fI P call) {r:bt} {a:Act} {order ay:List Nat} {cn cr:Nat} (fE:j3 ops.size order ay=true)
 {Q:Exit→Act→World→Prop} (ag:la ar E an (Q .normal) Q (Fy P an ops order ay cn cr (eP P an ops (fX ops order)) call r h)) (k:eJ E an r a) (s:aY ar E h w):(Code.region id ops true).wpIn (b8 rd) 0 P Q a w:=by
 unfold Fy at ag
 cases cA:(eP P an ops (fX ops order)).run call r h with
 | fail=>rw [cA] at ag;exact ag.elim
 | cp _ _ _ _ _=>rw [cA] at ag;exact ag.elim
 | ok es eI bc=>
 rw [cA] at ag
 simp only at ag
 cases kU:Ab ops order es cn with
 | none=>rw [kU] at ag;exact ag.elim
 | some x=>
 obtain ⟨b,hG,A⟩:=x
 rw [kU] at ag
 simp only at ag
 cases iw:(bY es bc cn).get b<;>rw [iw] at ag<;>try (exact False.elim ag)
 rename_i U0 yC
 cases U0 with
 | cons _ _=>exact False.elim ag
 | nil=>
 simp only at ag
 cases tT:sf ops hG b ((order.drop cn).take (cr-cn)) with
 | none=>rw [tT] at ag;exact ag.elim
 | some ms=>
 rw [tT] at ag
 simp only at ag
 cases aF:(xd P ops ay cn cr A.t&&(vJ (qg P A.t) ms&&(xe P ops es (bY es bc cn) b call an (order.take cn) 0&&wa ((bD A.m).run eI) (.map b)))) with
 | false=>rw [aF] at ag;exact ag.elim
 | true=>
 rw [aF] at ag
 simp only [cond_true] at ag
 simp only [Bool.and_eq_true] at aF
 obtain ⟨zA,gY,eg,oX⟩:=aF
 have oX:=DB oX
 obtain ⟨l1,MX,agF⟩:=MT fE
 have EE:order.Nodup:=abN fun p i h=>(uP fE h).1
 obtain ⟨cz,i0,hq,D8,rT,Xw,wh,WU⟩:=aa9 kU
 obtain ⟨acZ,-,-,-⟩:=qI cA
 have hlen:es.length=ops.size:=by rw [acZ,na,l1]
 have hC:cn<ops.size:=by rw [←l1];exact (List.getElem?_eq_some_iff.1 rT).1
 have kL:=aa8 zA
 generalize nR:order.take cn=pre at eg
 generalize rU:(order.drop cn).take (cr-cn)=ins at tT
 generalize KO:(order.drop cn).drop (cr-cn)=post
 have mP:order=pre++(ins++post):=by rw [←nR,←rU,←KO,List.take_append_drop,List.take_append_drop]
 have tX:pre.length=cn:=by rw [←nR,List.length_take];omega
 have af':cn<cr:=by
  obtain ⟨r3,_⟩:=uP fE rT
  rcases Nat.lt_or_ge cn cr with h | h
  · exact h
  · exfalso
    obtain ⟨_,_,_,_,_,_,f3⟩:=kL i0 hq Xw
    obtain ⟨al,_⟩:=f3 (by omega) (by omega)
    rw [(zV (P:=P) wh).2.1] at al
    cases al
 have W':ins.length=cr-cn∨post=[]:=by
  rcases Nat.lt_or_ge (cr-cn) (order.drop cn).length with h | h
  · left;rw [←rU,List.length_take];omega
  · right;rw [←KO];exact List.drop_eq_nil_of_le h
 have B7:∀q i,pre[q]? =some i→posOf ay i=q∧i<ops.size∧q<cn:=by
  intro q i h
  have az:=(List.getElem?_eq_some_iff.1 h).1
  obtain ⟨aa,ae⟩:=uP fE (p:=q) (i:=i) (by rw [mP,List.getElem?_append_left az];exact h)
  exact ⟨aa,ae,by omega⟩
 have B5:∀q i,ins[q]? =some i→posOf ay i=cn+q∧i<ops.size∧cn+q<cr:=by
  intro q i h
  have az:=(List.getElem?_eq_some_iff.1 h).1
  obtain ⟨aa,ae⟩:=uP fE (p:=cn+q) (i:=i) (by
   rw [mP,List.getElem?_append_right (by omega),tX,Nat.add_sub_cancel_left,List.getElem?_append_left az];exact h)
  refine ⟨aa,ae,?_⟩
  have:ins.length≤cr-cn:=by rw [←rU,List.length_take];omega
  omega
 have B6:∀q i,post[q]? =some i→posOf ay i=cn+ins.length+q∧i<ops.size∧ins.length=cr-cn:=by
  intro q i h
  have ai:ins.length=cr-cn:=by
   rcases W' with ab | ab
   · exact ab
   · rw [ab] at h;simp at h
  obtain ⟨aa,ae⟩:=uP fE (p:=cn+ins.length+q) (i:=i) (by
   rw [mP,List.getElem?_append_right (by omega),List.getElem?_append_right (by omega),tX,show cn+ins.length+q-cn-ins.length=q from by omega];exact h)
  exact ⟨aa,ae,ai⟩
 have OP:∀i,i<ops.size→(∃q:Nat,pre[q]? =some i)∨(∃q:Nat,ins[q]? =some i)∨∃q:Nat,post[q]? =some i:=by
  intro i aD
  have hm:i ∈ order:=List.mem_of_getElem? (MX i aD).2
  rw [mP,List.mem_append,List.mem_append] at hm
  rcases hm with h | h | h
  · exact .inl (List.mem_iff_getElem?.1 h)
  · exact .inr (.inl (List.mem_iff_getElem?.1 h))
  · exact .inr (.inr (List.mem_iff_getElem?.1 h))
 have Gc:∀i o,i ∈ pre→ops[i]? =some o→jq o=false∧dC P o=false∧(looks o.op=true→eh P o.op=false→∃t x,o.op=.load t x):=by
  intro i o aD aS
  obtain ⟨q,az⟩:=List.mem_iff_getElem?.1 aD
  obtain ⟨aa,ae,aI⟩:=B7 q i az
  obtain ⟨_,_,_,_,f1,_,_⟩:=kL i o aS
  exact f1 (by omega)
 have w4:∀i,i ∈ ins→∃o ik,ops[i]? =some o∧jW o=some ik∧ik.t=A.t:=by
  intro i aD
  obtain ⟨q,az⟩:=List.mem_iff_getElem?.1 aD
  obtain ⟨aa,ae,aI⟩:=B5 q i az
  obtain ⟨_,_,_,_,_,f2,_⟩:=kL i _ (Array.getElem?_eq_getElem ae)
  obtain ⟨ik,g1,g2⟩:=f2 (by omega) (by omega)
  exact ⟨_,ik,Array.getElem?_eq_getElem ae,g1,g2⟩
 have xC:∀i o,i ∈ post→ops[i]? =some o→eh P o.op=false∧looks o.op=false:=by
  intro i o aD aS
  obtain ⟨q,az⟩:=List.mem_iff_getElem?.1 aD
  obtain ⟨aa,ae,aI⟩:=B6 q i az
  obtain ⟨_,_,_,_,_,_,f3⟩:=kL i o aS
  exact f3 (by omega) (by omega)
 have Fj:∀i,i<ops.size→(kn ops i=true↔i ∈ ins):=by
  intro i aD
  have b9:ops[i]? =some ops[i]:=Array.getElem?_eq_getElem aD
  constructor
  · intro h
    unfold kn at h
    rw [b9] at h
    simp only at h
    rcases OP i aD with ⟨q,az⟩ | ⟨q,az⟩ | ⟨q,az⟩
    · rw [(Gc i _ (List.mem_of_getElem? az) b9).1] at h;cases h
    · exact List.mem_of_getElem? az
    · have:=(xC i _ (List.mem_of_getElem? az) b9).1
      rw [(YJ (P:=P) h).1] at this
      cases this
  · intro h
    obtain ⟨o,ik,g1,g2,_⟩:=w4 i h
    unfold kn
    rw [g1]
    exact (zV (P:=P) g2).1
 have EF:ins.Nodup:=by
  rw [mP] at EE
  exact (List.nodup_append.1 (List.nodup_append.1 EE).2.1).1
 have wS:=cA
 rw [mP,xq,xq] at wS
 obtain ⟨gi,bw,aa,U1,o1,KQ,lU⟩:=G0 _ _ wS
 obtain ⟨nB,cb,ae,DC,jU,XJ,af5⟩:=G0 _ _ KQ
 obtain ⟨fb,-,-,-⟩:=qI o1
 rw [na,tX] at fb
 obtain ⟨-,bN,bM,-⟩:=qI KQ
 have Ko:U1[0]? =some cz:=by
  rw [lU,List.getElem?_append_right (by omega),fb,Nat.sub_self] at D8
  exact D8
 have XL:bw=hG:=by
  unfold dH at bM
  rw [Ko] at bM
  exact bM.symm.trans WU
 have W5:bY es bc cn=aa:=by
  unfold bY at bN ⊢
  rw [D8]
  rw [Ko] at bN
  exact bN
 subst XL
 rw [W5] at iw eg
 have oS:∀i ∈ ins,∃o ik m,ops[i]? =some o∧jW o=some ik∧(w9 P ik.t=true∧qg P ik.t=qg P A.t)∧qe ops bw b o=some m∧∃v H1 cR,(cd P an ops o).run call bw H1=.val v cR:=by
  intro i aD
  obtain ⟨o,ik,g1,g2,g3⟩:=w4 i aD
  obtain ⟨m,_,bU,g4,g5⟩:=(zT tT).left i aD
  rw [g1] at g4;cases g4
  refine ⟨o,ik,m,g1,g2,⟨by rw [g3];unfold xd at zA;rw [Bool.and_eq_true] at zA;exact zA.1,by rw [g3]⟩,g5,Ll (fX ops ins) (fun eo tU=>?_) jU o ?_⟩
  · obtain ⟨q,az⟩:=List.mem_iff_getElem?.1 tU
    have qa:q<ins.length:=by rw [←na (ops:=ops)];exact (List.getElem?_eq_some_iff.1 az).1
    obtain ⟨agy,gu,w7,sg,_⟩:=w4 _ (List.getElem_mem qa)
    have:=k4 (List.getElem?_eq_getElem qa) w7
    rw [az] at this;cases this
    exact (w3 sg).2.1
  · obtain ⟨q,az⟩:=List.mem_iff_getElem?.1 aD
    exact List.mem_of_getElem? (k4 az g1)
 have zn:=HT (zT tT) EF gY
 obtain ⟨afP,agv,afH,kz,DL,afU,afV,Vw,_,afW⟩:=Fm oS zn ins [] [] yC aa (fun i aD=>aD) (fun i aD=>by simp at aD) (by simpa using EF) (fun m hm=>by simp at hm) iw
 rw [jU] at DL
 simp only [ns.ok.injEq] at DL
 obtain ⟨-,XI,Wb⟩:=DL
 subst XI Wb
 obtain ⟨Ek,XH⟩:=Nu (fX ops post) (fun eo tU=>by
  obtain ⟨q,az⟩:=List.mem_iff_getElem?.1 tU
  have qa:q<post.length:=by rw [←na (ops:=ops)];exact (List.getElem?_eq_some_iff.1 az).1
  obtain ⟨_,Kv,_⟩:=B6 q _ (List.getElem?_eq_getElem qa)
  have:=k4 (List.getElem?_eq_getElem qa) (Array.getElem?_eq_getElem Kv)
  rw [az] at this;cases this
  exact xC _ _ (List.getElem_mem qa) (Array.getElem?_eq_getElem Kv)) XJ
 subst Ek
 refine wpIn_region_draw fun t=>?_
 simp only [Region.schedule,cE,Bool.true_or,if_true]
 have g':∀i o,ops[i]? =some o→kt i o=true:=fun i o h=>by obtain ⟨_,_,ae,_⟩:=kL i o h;exact ae
 have cT:∀k,¬(Array.replicate ops.size false).getD k false=true:=by
  intro k
  rw [pX,Array.getElem?_replicate]
  split<;>simp
 obtain ⟨s1,s2,j6⟩:=J2 (ops:=ops) g' ops.size t (Array.replicate ops.size false) (by simp) (Nat.le_trans List.countP_le_length (by simp))
 change wpOpsIn (b8 rd) 0 P ops Q (Region.linearise.go .any ops ops.size t (Array.replicate ops.size false) []) a {w with drawn:=w.drawn+1}
 generalize mH:Region.linearise.go .any ops ops.size t (Array.replicate ops.size false) []=kE at s1 s2 j6
 generalize Fc:kE.filter (kn ops)=σ
 have FI:∀k,k ∈ σ↔k ∈ ins:=by
  intro k
  rw [←Fc,List.mem_filter]
  constructor
  · rintro ⟨g1,g2⟩
    exact (Fj k (s2 k g1).1).1 g2
  · intro g
    obtain ⟨q,az⟩:=List.mem_iff_getElem?.1 g
    have ax:=(B5 q k az).2.1
    refine ⟨?_,(Fj k ax).2 g⟩
    rcases j6 k ax with h | h
    · exact absurd h (cT k)
    · exact h
 have KH:σ.Nodup:=by rw [←Fc];exact s1.filter _
 have EO:σ.Perm ins:=(List.perm_ext_iff_of_nodup KH EF).2 FI
 have K_:σ.length=ins.length:=EO.length_eq
 have jT:(pre++(σ++post)).Perm order:=by
  rw [mP]
  exact (EO.append_right post).append_left pre
 have EG:(pre++(σ++post)).Nodup:=jT.nodup_iff.2 EE
 have wF:(pre++(σ++post)).length=ops.size:=by rw [jT.length_eq,l1]
 have yr:=aeD EG
 generalize XB:(List.range ops.size).map (fun k=>(pre++(σ++post)).idxOf k)=iZ
 have tW:∀k,k<ops.size→posOf iZ k=(pre++(σ++post)).idxOf k:=by
  intro k ax
  rw [←XB]
  unfold posOf
  rw [List.getElem?_map,List.getElem?_range ax]
  rfl
 have xw:∀i,i<ops.size→i ∈ pre→posOf iZ i=posOf ay i∧posOf ay i<cn:=by
  intro i aD hm
  obtain ⟨q,az⟩:=List.mem_iff_getElem?.1 hm
  obtain ⟨g1,_,g3⟩:=B7 q i az
  rw [tW i aD,(yr i q).1 az,g1]
  exact ⟨rfl,g3⟩
 have xv:∀i,i<ops.size→i ∈ ins→∃q:Nat,σ[q]? =some i∧posOf iZ i=cn+q∧q<ins.length∧cn≤posOf ay i∧posOf ay i<cn+ins.length:=by
  intro i aD hm
  obtain ⟨q,az⟩:=List.mem_iff_getElem?.1 ((FI i).2 hm)
  obtain ⟨dX,mS⟩:=List.mem_iff_getElem?.1 hm
  obtain ⟨g1,_,g3⟩:=B5 dX i mS
  have:=(List.getElem?_eq_some_iff.1 az).1
  have:=(List.getElem?_eq_some_iff.1 mS).1
  exact ⟨q,az,by rw [tW i aD,(yr i q).2.1 az,tX],by omega,by omega,by omega⟩
 have F7:∀i,i<ops.size→i ∈ post→posOf iZ i=posOf ay i∧cn+ins.length≤posOf ay i:=by
  intro i aD hm
  obtain ⟨q,az⟩:=List.mem_iff_getElem?.1 hm
  obtain ⟨g1,_,_⟩:=B6 q i az
  rw [tW i aD,(yr i q).2.2 az,g1,K_,tX]
  exact ⟨rfl,by omega⟩
 have cls:∀i,i<ops.size→i ∈ pre∨i ∈ ins∨i ∈ post:=by
  intro i aD
  rcases OP i aD with ⟨q,az⟩ | ⟨q,az⟩ | ⟨q,az⟩
  · exact .inl (List.mem_of_getElem? az)
  · exact .inr (.inl (List.mem_of_getElem? az))
  · exact .inr (.inr (List.mem_of_getElem? az))
 obtain ⟨rA,agw,Db,vl,JT,Vx,Vy,Vz,VB,VA⟩:=Fm oS zn σ [] [] yC aa (fun i aD=>(FI i).1 aD) (fun i aD=>by simp at aD) (by simpa using KH) (fun m hm=>by simp at hm) iw
 obtain ⟨tp,XK⟩:=XH vl
 have KV:=G1 _ _ o1 (G1 _ _ JT XK)
 rw [←xq,←xq] at KV
 obtain ⟨aaD,-,-,-⟩:=qI JT
 rw [na,K_] at aaD
 obtain ⟨cj,z2,z3,z4⟩:=qI KV
 rw [na,wF] at cj
 have MY:∀k,k<ops.size→posOf iZ k<ops.size∧(pre++(σ++post))[posOf iZ k]? =some k:=by
  intro k ax
  have hm:k ∈ pre++(σ++post):=jT.mem_iff.2 (List.mem_of_getElem? (MX k ax).2)
  obtain ⟨q,az⟩:=List.mem_iff_getElem?.1 hm
  have EP:=uo EG az
  rw [tW k ax,EP]
  have:=(List.getElem?_eq_some_iff.1 az).1
  exact ⟨by omega,az⟩
 have acs:∀p,p<ops.size→∃i,i<ops.size∧posOf iZ i=p:=by
  intro p ag
  have az:(pre++(σ++post))[p]? =some ((pre++(σ++post))[p]'(by omega)):=List.getElem?_eq_getElem _
  have hm:(pre++(σ++post))[p]'(by omega) ∈ order:=jT.mem_iff.1 (List.getElem_mem _)
  obtain ⟨q,tZ⟩:=List.mem_iff_getElem?.1 hm
  have aP:=(uP fE tZ).2
  exact ⟨_,aP,by rw [tW _ aP];exact uo EG az⟩
 have IM:∀j o,ops[j]? =some o→dC P o=true→j ∈ ins:=by
  intro j o aS kc
  rcases cls j (Array.getElem?_eq_some_iff.1 aS).1 with h | h | h
  · rw [(Gc j o h aS).2.1] at kc;cases kc
  · exact h
  · unfold dC at kc
    rw [(xC j o h aS).1] at kc
    cases kc
 have Fk:∀k ok,k ∈ ins→ops[k]? =some ok→ok.dst=none∧jq ok=true:=by
  intro k ok ax bu
  obtain ⟨o,ik,g1,g2,_⟩:=w4 k ax
  rw [bu] at g1;cases g1
  exact ⟨(w3 g2).2.1,(zV (P:=P) g2).1⟩
 have QJ:∀st,st=ops.size∨(∃k,k<ops.size∧k ∈ ins∧st=posOf iZ k)→∀c,b≠c→(bY (gi++(rA++tp)) vl st).get c=aa.get c:=by
  rintro st (rfl | ⟨k,ax,fu,rfl⟩) c aF
  · unfold bY
    rw [List.getElem?_eq_none (by omega)]
    exact Vy c aF
  · obtain ⟨q,_,g2,g3,_⟩:=xv k ax fu
    have ER:q<rA.length:=by omega
    unfold bY
    rw [g2,List.getElem?_append_right (by omega),fb,Nat.add_sub_cancel_left,List.getElem?_append_left ER,List.getElem?_eq_getElem ER]
    exact VB _ (List.getElem_mem ER) c aF
 have C:Cert P an ops (fun _=>call) (gi++(rA++tp)) r h eI vl (gq P iZ 0 ops.toList) (pre++(σ++post)) iZ ops.size ops.size true:=by
  refine ⟨cj,Nat.le_refl _,Nat.le_refl _,MY,acs,z2,z3,?_,?_,?_,?_,?_,?_,fun h=>absurd h (Nat.lt_irrefl _),fun h=>absurd h (Nat.lt_irrefl _)⟩
  · intro i o aS _
    exact z4 _ o (k4 (MY i (Array.getElem?_eq_some_iff.1 aS).1).2 aS)
  · intro i o b9
    obtain ⟨cq,f1,f2,f3,_⟩:=kL i o b9
    refine ⟨cq,f1,f2,fun _ k ok bu _=>?_⟩
    obtain ⟨mk,f4,f5⟩:=f3 k ok bu
    have aD:i<ops.size:=(Array.getElem?_eq_some_iff.1 b9).1
    have ax:k<ops.size:=(Array.getElem?_eq_some_iff.1 bu).1
    refine ⟨mk,f4,?_,fun he kc aP=>?_⟩
    · by_cases fu:k ∈ ins
      · unfold mf
        rw [(Fk k ok fu bu).1]
        simp
      · have ah:Nat.blt (posOf iZ k) (posOf iZ i)=Nat.blt (posOf ay k) (posOf ay i):=by
         rw [Bool.eq_iff_iff,Nat.blt_eq,Nat.blt_eq]
         rcases cls k ax with aF | aF | aF
         · obtain ⟨bJ,a2⟩:=xw k ax aF
           rcases cls i aD with a1 | a1 | a1
           · obtain ⟨ct,cf⟩:=xw i aD a1;omega
           · obtain ⟨q,_,cf,gx,j',kH⟩:=xv i aD a1;omega
           · obtain ⟨ct,cf⟩:=F7 i aD a1;omega
         · exact absurd aF fu
         · obtain ⟨bJ,a2⟩:=F7 k ax aF
           rcases cls i aD with a1 | a1 | a1
           · obtain ⟨ct,cf⟩:=xw i aD a1;omega
           · obtain ⟨q,_,cf,gx,j',kH⟩:=xv i aD a1;omega
           · obtain ⟨ct,cf⟩:=F7 i aD a1;omega
        rw [ah]
        exact f5
    · have fu:=IM k ok bu kc
      obtain ⟨agH,_,cf,gx,j',kH⟩:=xv k ax fu
      rcases cls i aD with a1 | a1 | a1
      · obtain ⟨bJ,a2⟩:=xw i aD a1;omega
      · exact .inr ⟨rfl,(Fk i o a1 b9).2,(Fk k ok fu bu).2⟩
      · rw [(xC i o a1 b9).1] at he;cases he
  · have:=z' (P:=P) (ay:=iZ) (l:=ops.toList) (i:=0)
    simpa using this
  · intro j o g1 g2
    have:=uz (P:=P) (ay:=iZ) (i:=0) (j:=j) (l:=ops.toList) (o:=o) (by simpa using g1) g2
    simpa using this
  · intro st cm
    rcases qj cm with h | ⟨j,o,g1,g2,g3⟩
    · exact .inl (.inl (by simpa using h))
    · exact .inr ⟨j,o,by simpa using g1,g2,by simpa using g3⟩
  · intro j o nN ai he _
    have bB:j<ops.size:=(Array.getElem?_eq_some_iff.1 nN).1
    have lo:j ∈ pre:=by
     rcases cls j bB with a1 | a1 | a1
     · exact a1
     · obtain ⟨bU,ik,g1,g2,_⟩:=w4 j a1
       rw [nN] at g1;cases g1
       rw [(zV (P:=P) g2).2.1] at he;cases he
     · rw [(xC j o a1 nN).2] at ai;cases ai
    obtain ⟨ps,OU,ki⟩:=(Gc j o lo nN).2.2 ai he
    obtain ⟨q,az⟩:=List.mem_iff_getElem?.1 lo
    obtain ⟨bJ,_,a3⟩:=B7 q j az
    obtain ⟨e,c,off,ab,et,f_,y3,y4,xT⟩:=L7 eg q j o ps OU az nN ki
    have WR:(gi++(rA++tp))[posOf iZ j]? =some e:=by
     rw [(xw j bB lo).1,bJ,List.getElem?_append_left (by omega)]
     rw [Nat.zero_add,lU,List.getElem?_append_left (by omega)] at et
     exact et
    refine ⟨e,WR,fun st cm _=>⟨call,_,⟨cw,c9⟩,UG ki y4 xT f_ _ (QJ st ?_ c fun h=>y3 h.symm)⟩⟩
    rcases qj cm with h | ⟨bp,bU,g1,g2,g3⟩
    · exact .inl (by simpa using h)
    · have zD:ops[bp]? =some bU:=by simpa using g1
      exact .inr ⟨bp,(Array.getElem?_eq_some_iff.1 zD).1,IM bp bU zD g2,by simpa using g3⟩
 have jO:∀(ao:Env) (bg:Act),E.le ao→bg.defers=a.defers→∀(bq:bt),T.get .bad ee bq=T.get .bad ee r→jA ao (T.get .bad ee bq) bg.defers:=fun ao bg he a1 bq o0=>by rw [o0,a1];exact k.defers.mono he
 have zr:T.get .bad ee eI=T.get .bad ee r:=by
  have:=C.Dq ops.size (Nat.le_refl _)
  have EH:(gi++(rA++tp))[ops.size]? =none:=List.getElem?_eq_none (by omega)
  unfold dH at this
  rw [EH] at this
  exact this
 have iy:Holds ar ar (gi++(rA++tp)) vl iZ (il ops (gi++(rA++tp)) vl iZ (Array.replicate ops.size false) 0):=
  ⟨rfl,fun _ _=>rfl,fun k ax=>(by obtain ⟨_,_,_,_,a_⟩:=ax;omega),fun k bp ax=>(by obtain ⟨_,_,_,_,a_⟩:=ax;omega)⟩
 obtain ⟨f',dI,g1,g2,g3,g4,g5,g6⟩:=C.advance ops.size 0 (by omega) (fun k o _ _ _=>cT k) ar iy (E:=E) (w:={w with drawn:=w.drawn}) (by rw [C.a_];exact s.same rfl rfl rfl rfl)
 rw [←mH]
 refine aa_ (ar:=ar) bx (fun _=>cw) (fun _=>c9) C (fR:=E) (D:=a.defers) (kE:=kE) (fun ao bg aj au aC aM bG=>?_) (fun i k aD ax aP bg bC Wl=>?_) ops.size t _ [] a _ (by rw [mH];rfl) (fun k _=>⟨fun h=>absurd h (cT k),fun h=>by simp at h⟩) (Nat.le_trans List.countP_le_length (by simp)) ?_
 · refine ag ao bg aj au ⟨aC,jO ao bg au aM eI zr⟩ ?_
   have iA:=de aC A.m
   rw [oX] at iA
   simp only [Rel] at iA
   obtain ⟨p,Wa,_⟩:=iA
   rw [Vw,←Vz]
   refine bG.forget Vx Wa ?_
   rw [List.nil_append,Mg (zT tT),Mf (fun i m h=>Jq h) VA]
   exact EO.symm.map _
 · have ln:i<ops.size:=by
    unfold kn at aD
    cases aS:ops[i]? with
    | none=>rw [aS] at aD;cases aD
    | some o=>exact (Array.getElem?_eq_some_iff.1 aS).1
   have rV:k<ops.size:=by
    unfold kn at ax
    cases aS:ops[k]? with
    | none=>rw [aS] at ax;cases ax
    | some o=>exact (Array.getElem?_eq_some_iff.1 aS).1
   have fu:=(Fj k rV).1 ax
   have K':σ=bg.filter (kn ops)++i::bC.filter (kn ops):=by rw [←Fc,Wl,List.filter_append,List.filter_cons_of_pos aD]
   have h':posOf iZ i=cn + (bg.filter (kn ops)).length:=by
    rw [tW i ln,(yr i (bg.filter (kn ops)).length).2.1 (by rw [K',List.getElem?_append_right (Nat.le_refl _),Nat.sub_self];rfl),tX]
   obtain ⟨q,az,zF,_⟩:=xv k rV fu
   have qa:q < (bg.filter (kn ops)).length:=by omega
   rw [K',List.getElem?_append_left qa] at az
   exact (List.mem_filter.1 (List.mem_of_getElem? az)).1
 · refine ⟨by simp,k.size,rfl,fun bp ax=>absurd ax (cT bp),fun bp o e ax=>absurd ax (cT bp),E,f',dI,Env.le.refl E,g1,g3,fun bp o aa ae=>⟨fun h=>absurd h (cT bp),fun h=>by have:=g4 bp o aa ae (Nat.zero_le _);omega⟩,
    fun bp o _ _ h=>absurd h (cT bp),g5,?_,fun t aA=>.inr ⟨fun bp o ax=>absurd ax (cT bp),k.aB t aA⟩⟩
   exact g6.same rfl rfl rfl rfl
theorem UJ {rd:Option Nat} {ar:Fr} {E:Env} {h:af} {w:World} {id:Nat} (cE:P.follows .mixedOrders=true) (bx:ea P) (cw:fy P call) (c9:fI P call) {r:bt} {a:Act}
 {Q:Exit→Act→World→Prop} (ag:la ar E an (Q .normal) Q ((Dm P an ops).run call r h)) (k:eJ E an r a) (s:aY ar E h w):(Code.region id ops true).wpIn (b8 rd) 0 P Q a w:=by
 unfold Dm at ag
 generalize xt P ops=order at ag
 generalize AG order 0 ops.toList=ay at ag
 unfold Jj at ag
 cases av:(j3 ops.size order ay&&ti P ops ay) with
 | false=>
   rw [av] at ag
   simp only [cond_false] at ag
   cases hM:(j3 ops.size order ay&&xN P ops order ay) with
   | false=>
     rw [hM] at ag
     simp only [cond_false] at ag
     cases Ec:j3 ops.size order ay with
     | false=>rw [Ec] at ag;exact ag.elim
     | true=>
       rw [Ec] at ag
       simp only [cond_true] at ag
       exact abb cE bx cw c9 Ec ag k s
   | true=>
     rw [hM] at ag
     simp only [cond_true] at ag
     simp only [Bool.and_eq_true] at hM
     exact UK cE bx cw c9 hM.1 hM.2 ag k s
 | true=>
   rw [av] at ag
   simp only [cond_true] at ag
   simp only [Bool.and_eq_true] at av
   obtain ⟨fE,fU⟩:=av
   unfold j3 at fE
   simp only [Bool.and_eq_true,Nat.beq_eq] at fE
   obtain ⟨l1,tU,wH,wI⟩:=fE
   have gS:∀k,k<ops.size→posOf ay k<ops.size∧order[posOf ay k]? =some k:=by
    intro k ax
    have aE:ay[k]? =some (posOf ay k):=by
     unfold posOf
     rw [List.getElem?_eq_getElem (by omega)]
     rfl
    have:=qx wH aE
    rw [Nat.zero_add] at this
    exact ⟨by have:=(List.getElem?_eq_some_iff.1 this).1;omega,this⟩
   have jw:∀p,p<ops.size→∃i,i<ops.size∧posOf ay i=p:=by
    intro p ag
    have aE:order[p]? =some (order[p]'(by omega)):=List.getElem?_eq_getElem (by omega)
    have:=qx wI aE
    rw [Nat.zero_add] at this
    refine ⟨order[p]'(by omega),by have:=(List.getElem?_eq_some_iff.1 this).1;omega,?_⟩
    unfold posOf
    rw [this]
    rfl
   have GZ:∀j o,ops[j]? =some o→dC P o=true→posOf ay j ∈ gq P ay 0 ops.toList:=fun j o aa ae=>by simpa using uz (ay:=ay) (i:=0) (j:=j) (l:=ops.toList) (by simpa using aa) ae
   have aee:ops.size ∈ gq P ay 0 ops.toList:=by simpa using z' (P:=P) (ay:=ay) (l:=ops.toList) (i:=0)
   have Oc:∀N M,∀s ∈ gq P ay 0 ops.toList,(s=ops.size∨(s=N∧M=N))∨∃k o,ops[k]? =some o∧dC P o=true∧s=posOf ay k:=fun N M s aQ=>by
    rcases qj aQ with h | ⟨j,o,aa,ae,aI⟩
    · exact .inl (.inl (by simpa using h))
    · exact .inr ⟨j,o,by simpa using aa,ae,by simpa using aI⟩
   have Kq:∀i o,ops[i]? =some o→∃cq,(d_ [] ops.toList)[i]? =some cq∧kt i o=true∧(posOf ay i<ops.size→
    ∀k ok,ops[k]? =some ok→posOf ay k<ops.size→∃mk,(d_ [] ops.toList)[k]? =some mk∧mf i cq (bQ ops o) o.dst k mk ok (Nat.blt (posOf ay k) (posOf ay i))=true∧(eh P o.op=true→dC P ok=true→posOf ay k<posOf ay i→e1 cq k=true∨(false=true∧jq o=true∧jq ok=true))):=by
    intro i o aD
    obtain ⟨cq,g1,g2,g3⟩:=Ji fU i o aD
    exact ⟨cq,g1,g2,fun _ k ok ax _=>by
     obtain ⟨mk,et,f_,y3⟩:=g3 k ok ax
     exact ⟨mk,et,f_,fun a b c=>.inl (y3 a b c)⟩⟩
   have main:∀(q:xW),
    (∀es lV N,es.length=N→N≤ops.size→(∀i o,ops[i]? =some o→posOf ay i<N→∃e,es[posOf ay i]? =some e∧(cd P an ops o).run call e.r e.h=.val e.v (bY es lV (posOf ay i+1)))→
      (N<ops.size→∃i0 hq,ops[i0]? =some hq∧posOf ay i0=N∧dC P hq=true)→q.run call es lV=true→∀j o,ops[j]? =some o→looks o.op=true→eh P o.op=false→posOf ay j<N→∃e,es[posOf ay j]? =some e∧∀s ∈ gq P ay 0 ops.toList,
      pa P (d_ [] ops.toList) ops.toList ay j (((d_ [] ops.toList)[j]?).getD 0) s=true→∃ab,(cd P an ops o).run call e.r (bY es lV s)=.val e.v ab)→
    la ar E an (Q .normal) Q (yO ops order ay (eP P an ops (fX ops order)) q call r h)→(Code.region id ops true).wpIn (b8 rd) 0 P Q a w:=by
    intro q p2 cA
    unfold yO at cA
    cases cm:(eP P an ops (fX ops order)).run call r h with
    | fail=>rw [cm] at cA;exact cA.elim
    | ok es eI bc=>
      rw [cm] at cA
      simp only at cA
      cases az:q.run call es bc with
      | false=>rw [az] at cA;exact cA.elim
      | true=>
        rw [az] at cA
        simp only [cond_true] at cA
        obtain ⟨au,aC,aM,bG⟩:=qI cm
        have hlen:es.length=ops.size:=by rw [au,na,l1]
        have gC:∀i o,ops[i]? =some o→posOf ay i<ops.size→∃e,es[posOf ay i]? =some e∧(cd P an ops o).run call e.r e.h=.val e.v (bY es bc (posOf ay i+1))∧dH es eI (posOf ay i+1)=(eR o.dst).run e.r e.v:=
         fun i o aS _=>bG _ o (k4 (gS i (Array.getElem?_eq_some_iff.1 aS).1).2 aS)
        have C:Cert P an ops (fun _=>call) es r h eI bc (gq P ay 0 ops.toList) order ay ops.size ops.size false:=
         ⟨hlen,Nat.le_refl _,Nat.le_refl _,gS,jw,aC,aM,gC,Kq,aee,GZ,Oc _ _,
           fun j o aa ae aI bo=>by
            obtain ⟨e,g1,g2⟩:=p2 es bc _ hlen (Nat.le_refl _) (fun i o aS aD=>by obtain ⟨e,cj,z2,_⟩:=gC i o aS aD;exact ⟨e,cj,z2⟩) (fun h=>by omega) az j o aa ae aI bo
            exact ⟨e,g1,fun s aQ hm=>by obtain ⟨ab,g3⟩:=g2 s aQ hm;exact ⟨_,ab,⟨cw,c9⟩,g3⟩⟩,
           fun h=>absurd h (Nat.lt_irrefl _),fun h=>absurd h (Nat.lt_irrefl _)⟩
        exact Dp cE bx cw c9 k s C (fun _=>cA) (fun _ _ _ _ _ _ _ h=>absurd h (Nat.lt_irrefl _)) (fun h=>absurd h (Nat.lt_irrefl _))
    | cp es eI bc v ab=>
      rw [cm] at cA
      simp only at cA
      cases az:(F8 ops order ay es.length&&q.run call es bc) with
      | false=>rw [az] at cA;exact cA.elim
      | true=>
        rw [az] at cA
        simp only [cond_true] at cA
        simp only [Bool.and_eq_true] at az
        obtain ⟨r4,az⟩:=az
        obtain ⟨aC,aM,bG,hq,dJ,e0,hY⟩:=Od cm
        have aP:es.length<ops.size:=by
         have:=(List.getElem?_eq_some_iff.1 dJ).1
         rw [na,l1] at this
         exact this
        obtain ⟨i0,rT,h'⟩:=jw es.length aP
        have b9:ops[i0]? =some ops[i0]:=Array.getElem?_eq_getElem rT
        have mP:=(gS i0 rT).2
        rw [h'] at mP
        have Xu:hq=ops[i0]:=by
         have:=k4 mP b9
         rw [dJ] at this
         cases this
         rfl
        subst Xu
        unfold F8 at r4
        rw [mP] at r4
        simp only at r4
        obtain ⟨m0,KA,_⟩:=np r4 i0 ops[i0] (by simp)
        have K8:∀k ok,ops[k]? =some ok→∃mk,(d_ [] ops.toList)[k]? =some mk∧(es.length<posOf ay k→e1 mk i0=true)∧(fv ok=true→posOf ay k<es.length→e1 m0 k=true):=by
         intro k ok ax
         obtain ⟨mk,cj,z2⟩:=np r4 k ok (by simpa using ax)
         simp only [Nat.zero_add,Bool.and_eq_true] at z2
         refine ⟨mk,cj,fun aE=>?_,fun br ai=>?_⟩
         · have:=z2.1
           rw [show Nat.blt es.length (posOf ay k)=true from by rw [Nat.blt_eq];exact aE] at this
           exact this
         · have:=z2.2
           rw [br,show Nat.blt (posOf ay k) es.length=true from by rw [Nat.blt_eq];exact ai,KA] at this
           exact this
        have tK:dC P ops[i0]=true:=by
         obtain ⟨bE,bR⟩:=Mi (P:=P) e0
         unfold dC;rw [bE,bR];rfl
        have gC:∀i o,ops[i]? =some o→posOf ay i<es.length→∃e,es[posOf ay i]? =some e∧(cd P an ops o).run call e.r e.h=.val e.v (bY es bc (posOf ay i+1))∧dH es eI (posOf ay i+1)=(eR o.dst).run e.r e.v:=
         fun i o aS ai=>bG _ o ai (k4 (gS i (Array.getElem?_eq_some_iff.1 aS).1).2 aS)
        have C:Cert P an ops (fun _=>call) es r h eI bc (gq P ay 0 ops.toList) order ay es.length ops.size false:=
         ⟨rfl,Nat.le_of_lt aP,Nat.le_of_lt aP,gS,jw,aC,aM,gC,Kq,by rw [←h'];exact GZ i0 _ b9 tK,GZ,Oc _ _,
           fun j o aa ae aI bo=>by
            obtain ⟨e,g1,g2⟩:=p2 es bc _ rfl (Nat.le_of_lt aP) (fun i o aS aD=>by obtain ⟨e,cj,z2,_⟩:=gC i o aS aD;exact ⟨e,cj,z2⟩) (fun _=>⟨i0,_,b9,h',tK⟩) az j o aa ae aI bo
            exact ⟨e,g1,fun s aQ hm=>by obtain ⟨ab,g3⟩:=g2 s aQ hm;exact ⟨_,ab,⟨cw,c9⟩,g3⟩⟩,
           fun h=>absurd h (Nat.lt_irrefl _),fun _ _=>⟨i0,_,m0,b9,h',e0,KA,fun k ok mk ax aE EB=>by
            obtain ⟨mk',cj,z2,_⟩:=K8 k ok ax
            rw [EB] at cj;cases cj
            exact z2 aE,fun k ok ax br ai=>by
            obtain ⟨mk',cj,_,z3⟩:=K8 k ok ax
            exact z3 br ai,v,ab,hY⟩⟩
        refine Dp cE bx cw c9 k s C (fun h=>absurd h (by omega)) (fun ao bg aj x v1 aa g1 _ _ g3 g4 g5 g6=>?_) (fun h=>absurd h (Nat.lt_irrefl _))
        obtain ⟨i1,dS,cj,z2,z3⟩:=g3
        have:i1=i0:=C.sw (Array.getElem?_eq_some_iff.1 cj).1 rT (by rw [z2,h'])
        subst this
        rw [b9] at cj;cases cj
        rw [hY] at z3;cases z3
        exact cA ao bg aj x g1 g4 g5 g6
   cases ai:oA P ops.toList with
   | false=>
     rw [ai] at ag
     have none:∀(l:List Oper),oA P l=false→∀(j:Nat) (o:Oper),l[j]? =some o→eh P o.op=false:=by
      intro l
      induction l with
      | nil=>intro _ j o h;simp at h
      | cons x l bh=>
        intro h j o aS
        simp only [oA,Bool.or_eq_false_iff] at h
        cases j with
        | zero=>simp only [List.getElem?_cons_zero,Option.some.injEq] at aS;subst aS;exact h.1
        | succ j=>exact bh h.2 j o (by simpa using aS)
     refine main _ (fun es lV N hlen hle gC KY _ j o aS eg az wB=>?_) ag
     have DW:N=ops.size:=by
      rcases Nat.lt_or_ge N ops.size with aP | h8
      · obtain ⟨i0,hq,cj,z2,z3⟩:=KY aP
        have:=none _ ai i0 hq (by simpa using cj)
        unfold dC at z3
        rw [this] at z3;cases z3
      · omega
     obtain ⟨e,bW,b3⟩:=gC j o aS wB
     refine ⟨e,bW,fun s aQ _=>?_⟩
     have gA:s=ops.size:=by
      rcases qj aQ with h | ⟨zX,bU,aa,ae,aI⟩
      · simpa using h
      · have:=none _ ai zX bU aa
        unfold dC at ae
        rw [this] at ae
        cases ae
     have flat:∀d,d≤ops.size→bY es lV d=bY es lV 0:=by
      intro d
      induction d with
      | zero=>intro _;rfl
      | succ d bh=>
        intro a1
        obtain ⟨i,wz,ln⟩:=jw d (by omega)
        have b9:ops[i]? =some ops[i]:=Array.getElem?_eq_getElem wz
        obtain ⟨UO,bN,bM⟩:=gC i ops[i] b9 (by omega)
        rw [ln] at bN bM
        have dp:eh P ops[i].op=false:=none _ ai i _ (by simp)
        rw [(rn dp bM).1,←bh (by omega)]
        simp [bY,bN]
     have:e.h=bY es lV s:=by rw [gA,flat ops.size (Nat.le_refl _),←flat (posOf ay j) (by omega)];simp [bY,bW]
     rw [←this]
     exact ⟨_,b3⟩
   | true=>
     rw [ai] at ag
     refine main _ (fun es lV N hlen hle gC KY EP j o aS eg az wB=>?_) ag
     obtain ⟨e,bW,_⟩:=gC j o aS wB
     have:=B4 EP j o (by simpa using aS) eg az e (by simpa using bW)
     exact ⟨e,bW,by simpa using this⟩
end
end Go.Proofs.YthemdhlheglhoaaGreatDoor.a6
namespace Go.Proofs.YthemdhlheglhoaaGreatDoor.a6
variable [Lay]
open Go Go.RowKit
def toExit:cY→Exit
 | .normal=>.normal
 | .exit id=>.exit id
 | .ret=>.ret
def PH (C:Ctx):Prop:=
 ∀f p args h v ab,C.Gi f=some p→p.run args h=.val v ab→(∃fn,C.P.funcs[f]? =some fn∧fn.body.isSome=true)∧∀(ar:Fr) E w xs,a7 E args xs→aY ar E h w→
  Calls C.P f xs.toArray w fun e aj=>∃ao x,e=.returned x∧E.le ao∧Rel ao v x∧aY ar ao ab aj
def Pc (C:Ctx):Prop:=
 ∀f p args h v ab,C.ext f=some p→p.run args h=.val v ab→∀(ar:Fr) E w xs,a7 E args xs→aY ar E h w→
  ∃ao x aj,(callFunc f xs.toArray).run C.P w=.ok (.value x) aj∧E.le ao∧Rel ao v x∧aY ar ao ab aj
def ox (C:Ctx):Prop:=PH C∧Pc C
theorem nF {P:Program} {rd:Option Nat} (m:Machine):m.fenced P (b8 rd):=fenced_wide P m
def Bd (rd:Option Nat) (P:Program) (c:Code) (Q:Exit→Act→World→Prop) (a:Act) (w:World):Prop:=
 match c with
 | .loop x=>∀(b:Frame) (k:List Item) (cs:List Frame),b.roundOf=rd→∃e bg aj,Q e bg aj∧ArrivesIn (Machine.fenced P (b8 rd)) P (lone (b.atR a (.code x::.inLoop x::k)) cs w) b k cs e bg aj
 | c=>c.wpIn (b8 rd) 0 P Q a w
theorem Bd.wp {rd:Option Nat} {P:Program} {c:Code} {Q:Exit→Act→World→Prop} {a:Act} {w:World} (h:Bd rd P c Q a w):c.wpIn (b8 rd) 0 P Q a w:=by
 cases c with
 | loop x=>
   intro b k cs jV _ _
   obtain ⟨e,bg,aj,q,r⟩:=h b k cs jV
   exact ⟨e,bg,aj,q,.of_steps (.one (nF _) stepR_loop) r⟩
 | _=>exact h
def s5 (ar:Fr) (E:Env) (an:Nat) (Q:Exit→Act→World→Prop):j8→Prop
 | .ok e r h=>∀ao bg aj,E.le ao→eJ ao an r bg→aY ar ao h aj→Q (toExit e) bg aj
 | .cp v r h=>∀ao bg aj x,E.le ao→eJ ao an r bg→Rel ao v x→aY ar ao h aj→Q (.panic (nc x)) bg aj
 | .fail=>False
theorem s5.up {ar:Fr} {E ao:Env} (h:E.le ao) {an:Nat} {Q:Exit→Act→World→Prop} {x:j8} (k:s5 ar E an Q x):s5 ar ao an Q x:=by
 cases x with
 | ok e r bc=>exact fun bX a w ae=>k bX a w (h.trans ae)
 | cp v r bc=>exact fun bX a w x ae=>k bX a w x (h.trans ae)
 | fail=>exact k
def Hs (P:Program) (an:Nat) (c:Code) (run:bt→af→j8):Prop:=
 ∀(rd:Option Nat) (ar:Fr) r h,(rd=none∨noMark c=true)→∀E a w,eJ E an r a→aY ar E h w→∀Q:Exit→Act→World→Prop,s5 ar E an Q (run r h)→Bd rd P c Q a w
def pD (P:Program) (ex:gH):Prop:=∀an c,Hs P an c (ex an c)
def sA (tmps:Array Value):ResultVar→Sem Value
 | .tmp t=>pure (tmps.getD t undef)
 | .cell b t=>do loadVar t (←asAddr (tmps.getD b undef))
theorem Gz {P:Program} {ar:Fr} {E:Env} {an:Nat} {r:bt} {h:af} {a:Act} {w:World} (k:RegRel0 E an r a) (s:aY ar E h w):∀{l:List ResultVar} {ad:List V},(i' P an l).run r h=some ad→
 ∃xs,a7 E ad xs∧(l.mapM (sA a.tmps)).run P w=.ok xs w
 | [],ad,he=>by
   simp only [i',Option.some.injEq] at he
   subst he
   exact ⟨[],rfl,rfl⟩
 | .tmp t::l,ad,he=>by
   simp only [i'] at he
   cases aF:(Nat.ble t top&&Nat.blt t an) with
   | false=>rw [aF] at he;cases he
   | true=>
     rw [aF] at he
     simp only [cond_true] at he
     simp only [Bool.and_eq_true,Nat.ble_eq] at aF
     cases aG:(i' P an l).run r h with
     | none=>rw [aG] at he;cases he
     | some us=>
       rw [aG] at he
       simp only [Option.some.injEq] at he
       subst he
       obtain ⟨xs,aa,ae⟩:=Gz k s aG
       refine ⟨_::xs,by simp only [a7];exact ⟨_,_,rfl,k.aB t aF.1,aa⟩,?_⟩
       rw [List.mapM_cons,Sem.run_bind]
       simp only [sA,Sem.run_pure,Result.andThen_ok,Sem.run_bind,ae]
 | .cell b t::l,ad,he=>by
   simp only [i'] at he
   cases aF:(Nat.ble b top&&Nat.blt b an) with
   | false=>rw [aF] at he;cases he
   | true=>
     rw [aF] at he
     simp only [cond_true] at he
     simp only [Bool.and_eq_true,Nat.ble_eq] at aF
     cases bn:(m_ P t).run h (T.get .bad (aq b) r) with
     | none=>rw [bn] at he;cases he
     | some v=>
       rw [bn] at he
       simp only at he
       cases aG:(i' P an l).run r h with
       | none=>rw [aG] at he;cases he
       | some us=>
         rw [aG] at he
         simp only [Option.some.injEq] at he
         subst he
         obtain ⟨xs,aa,ae⟩:=Gz k s aG
         obtain ⟨Y,_,cv,A,jM,eL⟩:=L6 (P:=P) s (k.aB b aF.1) bn
         refine ⟨Y::xs,by simp only [a7];exact ⟨_,_,rfl,cv,aa⟩,?_⟩
         rw [List.mapM_cons,Sem.run_bind]
         simp only [sA,jM,asAddr,Sem.run_bind,Sem.run_pure,Result.andThen_ok,eL,ae]
theorem HW:∀(args:List V) (i:Nat) (t:bt) (j:Nat),i+args.length≤top+1→j≤top→
 T.get .bad (aq j) (kG i args t)=if i≤j∧j<i+args.length then (args[j-i]?).getD .bad else T.get .bad (aq j) t
 | [],i,t,j,_,_=>by
   have:¬(i≤j∧j<i):=by omega
   simp [kG,this]
 | v::ad,i,t,j,h,bB=>by
   simp only [List.length_cons] at h ⊢
   rw [kG,HW ad _ _ _ (by omega) bB]
   by_cases aa:i+1≤j∧j<i+1+ad.length
   · rw [if_pos aa,if_pos (by omega)]
     have:j-i=(j - (i+1))+1:=by omega
     rw [this,List.getElem?_cons_succ]
   · rw [if_neg aa,T.gP]
     by_cases ae:j=i
     · subst ae;rw [if_pos rfl,if_pos (by omega)];simp
     · rw [if_neg (fun e=>ae (eZ e).symm),if_neg (by omega)]
theorem ab4 {E:Env} {ad:List V} {xs:List Value} (h:a7 E ad xs) (fn:Func) (a:Act) (P:Program) (w:World)
 (aG:(fn.results.toList.mapM (sA a.tmps)).run P w=.ok xs w):∃x,(results fn a.tmps).run P w=.ok x w∧Rel E (oneOf ad) x:=by
 have kU:(fn.results.mapM (sA a.tmps)).run P w=.ok xs.toArray w:=by
  rw [Array.mapM_eq_mapM_toList,Sem.run_map,aG]
  rfl
 have D7:results fn a.tmps=(do
  let ad ←fn.results.mapM (sA a.tmps)
  pure (if h:ad.size=1 then ad[0] else .tuple ad)):=by
  unfold results
  have:(fun x=>match x with
   | ResultVar.tmp t=>(pure (a.tmps.getD t undef):Sem Value)
   | ResultVar.cell b t=>do loadVar t (←asAddr (a.tmps.getD b undef)))=sA a.tmps:=by
   funext x
   cases x<;>rfl
  rw [←this]
  rfl
 have t':(results fn a.tmps).run P w=.ok (if h:xs.toArray.size=1 then xs.toArray[0] else .tuple xs.toArray) w:=by
  rw [D7,Sem.run_bind,kU]
  rfl
 refine ⟨_,t',?_⟩
 match ad,h with
 | [],h=>
   simp only [a7] at h
   subst h
   simp only [oneOf,Rel]
   exact ⟨#[],rfl,rfl⟩
 | [v],h=>
   simp only [a7] at h
   obtain ⟨y,cu,rfl,aZ,rfl⟩:=h
   simpa [oneOf] using aZ
 | v::u::ad,h=>
   have ai:=h.length
   have dp:¬xs.toArray.size=1:=by simp at ai ⊢;omega
   rw [dif_neg dp]
   simp only [oneOf,Rel]
   exact ⟨_,rfl,by simpa using h⟩
section
variable {C:Ctx}
theorem HV:∀(args:List V) (i:Nat) (t:bt),i+args.length≤top+1→T.get .bad ee (kG i args t)=T.get .bad ee t
 | [],_,_,_=>rfl
 | v::ad,i,t,h=>by
   simp only [List.length_cons] at h
   simp only [kG]
   rw [HV ad (i+1) _ (by omega),T.gP,if_neg (su (by omega))]
theorem Jt {E:Env} {an:Nat} {args:List V} {xs:List Value} (ai:a7 E args xs) (jN:args.length≤an) (fM:an≤top):
 eJ E an (kG 0 args .e) {tmps:=xs.toArray++Array.replicate (an-xs.toArray.size) undef,defers:=[]}:=by
 have hlen:=ai.length
 refine ⟨⟨by simp;omega,fun t aA=>?_⟩,?_⟩
 · rw [HW _ _ _ _ (by omega) aA]
   by_cases aP:t<args.length
   · rw [if_pos (by omega),Nat.sub_zero,List.getElem?_eq_getElem aP]
     obtain ⟨y,aZ,cv⟩:=ai.get t args[t] (List.getElem?_eq_getElem aP)
     simp only [Option.getD_some]
     have:(xs.toArray++Array.replicate (an-xs.toArray.size) undef).getD t undef=y:=by
      rw [Array.getD_eq_getD_getElem?,Array.getElem?_append_left (by simp;omega)]
      simp [aZ]
     rw [this];exact cv
   · rw [if_neg (by omega)]
     simp [Rel]
 · rw [HV _ _ _ (by omega)]
   simp [jA]
def jg (E:Env) (u:Option V) (m:FrameMode):Prop:=
 match u with
 | none=>m=.returning
 | some v=>∃x,Rel E v x∧m=.panicking (nc x)
theorem jg.mono {E ao:Env} (h:E.le ao) {u:Option V} {m:FrameMode} (k:jg E u m):jg ao u m:=by
 cases u with
 | none=>exact k
 | some v=>obtain ⟨x,aa,ae⟩:=k;exact ⟨x,Rel.mono h _ _ aa,ae⟩
theorem jg.settle {E:Env} {u:Option V} {m:FrameMode} (k:jg E u m):settle m=m:=by
 cases u with
 | none=>simp only [jg] at k;subst k;rfl
 | some v=>obtain ⟨x,aa,rfl⟩:=k;rfl
theorem jg.run {E:Env} {u:Option V} {m:FrameMode} (k:jg E u m):m≠.run:=by
 cases u with
 | none=>simp only [jg] at k;subst k;simp
 | some v=>obtain ⟨x,aa,rfl⟩:=k;simp
def x2 (P:Program) (iK:qU):Prop:=
 ∀f args u h fG ab,iK f args u h=.go fG ab→(∃fn,P.funcs[f]? =some fn∧fn.body.isSome=true)∧
  ∀(ar:Fr) E w xs m,a7 E args xs→jg E u m→aY ar E h w→CallsDIn (b8 none) 0 P f xs.toArray m w fun e cX aj=>∃ao x,e=.returned x∧E.le ao∧jg ao fG (settle cX)∧aY ar ao ab aj
theorem aY.gone {ar:Fr} {E:Env} {h:af} {w aj:World} (s:aY ar E h w) {b:aO} {p:hJ} (gk:(h.get b).own=true) (ag:E b=some p) (cJ:ar.w.heap.size≤p.a8)
 (aP:w.heap.size≤aj.heap.size) (kV:∀j,j≠p.a8→aj.heap[j]? =w.heap[j]?) (l2:aj.os=w.os) (aA:aj.tape=w.tape) (aS:aj.output=w.output):aY ar E (h.set b .dead) aj:=
 s.set gk ag cJ aP kV l2 aA aS (fun _ _ _ e=>by cases e) trivial
theorem Fx {P:Program} {iK:qU} (bx:ea P) (jO:x2 P iK) {ar:Fr} {fn:Func} {tmps:Array Value} {R:Ending→World→Prop}:∀(ad:List V) (ds:List Deferred) (E:Env) (u:Option V) (h:af) (w:World) (m:FrameMode) (fG:Option V) (ab:af),
 kY iK ad u h=.go fG ab→k' E ad ds→jg E u m→aY ar E h w→(∀ao cX aj,E.le ao→jg ao fG cX→aY ar ao ab aj→LeavesInM (b8 none) 0 P fn tmps R [] cX aj)→LeavesInM (b8 none) 0 P fn tmps R ds m w
 | [],ds,E,u,h,w,m,fG,ab,he,a1,hu,s,cv=>by
   simp only [kY,pJ.go.injEq] at he
   obtain ⟨rfl,rfl⟩:=he
   simp only [k'] at a1
   subst a1
   exact cv E m w (Env.le.refl E) hu s
 | v::ad,ds,E,u,h,w,m,fG,ab,he,a1,hu,s,cv=>by
   obtain ⟨d,rp,rfl,zp,zq⟩:=a1
   cases v with
   | func f args=>
     simp only [kY] at he
     cases aF:iK f args u h with
     | fail=>rw [aF] at he;cases he
     | go sK aa=>
       rw [aF] at he
       simp only at he
       obtain ⟨av,cap,aA,ai⟩:=zp
       obtain ⟨⟨Vp,ix,ah⟩,cw⟩:=jO _ _ _ _ _ _ aF
       refine ⟨hu.run,.inr ⟨fun h=>by simp at h,_,cap,f,d.args++cap,aA,?_,fun _ _=>trivial,?_⟩⟩
       · rw [aA]
         simp only [invoke]
         exact qG bx ix ah _ w
       · have e:d.args++cap=(d.args.toList++cap.toList).toArray:=by apply Array.ext';simp
         rw [e]
         refine CallsDIn.mono (cw ar E w _ m ai hu s) fun e m1 bN az=>?_
         obtain ⟨eA,x,rfl,au,aC,aM⟩:=az
         exact Fx bx jO ad rp eA sK aa bN (settle m1) fG ab he (zq.mono au) aC aM fun bX m2 bM bW b3 dv=>cv bX m2 bM (au.trans bW) b3 dv
   | ptr b off=>
     simp only [kY] at he
     cases aE:h.get b<;>rw [aE] at he<;>simp only at he<;>try (cases he;done)
     obtain ⟨p,ag,WI⟩:=zp
     have ah:=s.at ag
     rw [aE] at ah
     obtain ⟨p',e8,cJ,bc⟩:=ah
     rw [ag] at e8;cases e8
     have jS:=(Array.getElem?_eq_some_iff.1 bc).1
     let bN:World:={w with heap:=w.heap.setIfInBounds p.a8 (.deferred none)}
     have XY:(Instr.takeDeferred p.a8).run P w=.ok [] bN:=by
      have ek:(getObj p.a8).run P w=.ok (.deferred (some [])) w:=by simp only [getObj,Sem.run,bc]
      have o2:(setObj p.a8 (.deferred none)).run P w=.ok () bN:=by simp only [setObj,Sem.run,bc];rfl
      simp only [Instr.takeDeferred,Sem.run_bind,ek,Result.andThen_ok,o2,Sem.run_pure]
     have s1:aY ar E (h.set b .dead) bN:=s.gone (by rw [aE];rfl) ag cJ (by simp [bN]) (fun j bB=>by simp only [bN,Array.getElem?_setIfInBounds];rw [if_neg (fun e=>bB e.symm)]) rfl rfl rfl
     refine ⟨hu.run,.inl ⟨p.a8,bN,by rw [WI],XY,?_⟩⟩
     exact Fx bx jO ad rp E u _ bN m fG ab he zq hu s1 cv
   | _=>simp [kY] at he
theorem GF {P:Program} {ar:Fr} {E:Env} {fn:Func} {r:bt} {h:af} {a:Act} {w:World} (k:RegRel0 E fn.ntmps r a) (s:aY ar E h w) {ad:List V} (bn:(i' P fn.ntmps fn.results.toList).run r h=some ad):
 ∃x,(results fn a.tmps).run P w=.ok x w∧Rel E (oneOf ad) x:=by
 obtain ⟨cu,bW,b3⟩:=Gz (P:=P) k s bn
 exact ab4 bW fn a P w b3
section
variable {C:Ctx}
theorem TL (ex:gH):fI C.P (oL C ex):=by
 intro f args h v ab he
 trivial
def ow (ar:Fr) (E:Env) (R:Ending→World→Prop):aU→Prop
 | .val v ab=>∀ao x aj,E.le ao→Rel ao v x→aY ar ao ab aj→R (.returned x) aj
 | .cp v ab=>∀ao x aj,E.le ao→Rel ao v x→aY ar ao ab aj→R (.panicked (nc x)) aj
 | .fail=>False
theorem ow.up {ar:Fr} {E ao:Env} (h:E.le ao) {R:Ending→World→Prop} {x:aU} (k:ow ar E R x):ow ar ao R x:=by
 cases x with
 | val v bc=>exact fun bX a w ae=>k bX a w (h.trans ae)
 | cp v bc=>exact fun bX a w ae=>k bX a w (h.trans ae)
 | fail=>exact k
theorem DE (bx:ea C.P) {iK:qU} (jO:x2 C.P iK) {ar:Fr} {fn:Func} {E:Env} {r:bt} {u:Option V} {h:af} {a:Act} {w:World} {m:FrameMode} {R:Ending→World→Prop}
 (k:eJ E fn.ntmps r a) (hu:jg E u m) (s:aY ar E h w)
 (ag:ow ar E R (finish (i' C.P fn.ntmps fn.results.toList) r (kY iK (T.get .bad ee r).list u h))):LeavesInM (b8 none) 0 C.P fn a.tmps R a.defers m w:=by
 cases ai:kY iK (T.get .bad ee r).list u h with
 | fail=>rw [ai] at ag;exact ag.elim
 | go fG ab=>
   rw [ai] at ag
   refine Fx bx jO _ a.defers E u h w m fG ab ai k.defers.list hu s fun ao cX aj au aC aM=>?_
   cases fG with
   | some v=>
     obtain ⟨x,al,rfl⟩:=aC
     exact ag ao x aj au al aM
   | none=>
     simp only [jg] at aC
     subst aC
     simp only [finish] at ag
     cases bn:(i' C.P fn.ntmps fn.results.toList).run r ab with
     | none=>rw [bn] at ag;exact ag.elim
     | some ad=>
       rw [bn] at ag
       obtain ⟨x,bW,b3⟩:=GF (P:=C.P) (k.mono au).toRegRel0 aM bn
       exact ⟨x,bW,ag ao x aj au b3 aM⟩
theorem I8 {res:s7} {u fG:Option V} {x:j8} {ab:af} (he:yM res u x=.go fG ab):∃e r ad,x=.ok e r ab∧(e=.normal∨e=.ret)∧T.get .bad ee r=.bad∧res.run r ab=some ad∧fG=u:=by
 unfold yM at he
 cases x with
 | fail=>cases he
 | cp _ _ _=>cases he
 | ok e r h=>
   have main:(bif (T.get .bad ee r).Fo then (match res.run r h with
    | some _=>pJ.go u h
    | none=>.fail) else .fail)=.go fG ab→(e=.normal∨e=.ret)→∃c0 bq ad,j8.ok e r h=.ok c0 bq ab∧(c0=.normal∨c0=.ret)∧T.get .bad ee bq=.bad∧res.run bq ab=some ad∧fG=u:=by
    intro he gz
    cases ah:(T.get .bad ee r).Fo with
    | false=>rw [ah] at he;cases he
    | true=>
      rw [ah] at he
      simp only [cond_true] at he
      have Wt:T.get .bad ee r=.bad:=by
       cases aE:T.get .bad ee r<;>rw [aE] at ah<;>first
        | rfl
        | cases ah
      cases bn:res.run r h with
      | none=>rw [bn] at he;cases he
      | some ad=>
        rw [bn] at he
        simp only [pJ.go.injEq] at he
        obtain ⟨rfl,rfl⟩:=he
        exact ⟨e,r,ad,rfl,gz,Wt,bn,rfl⟩
   cases e with
   | normal=>exact main he (.inl rfl)
   | ret=>exact main he (.inr rfl)
   | exit id=>cases he
theorem adg {c:Code} {s:BT} (h:AQ c=some s):∃id dS eo args types,c=.seq (.region id #[dS,eo] false) s.rest∧dS.dst=some s.d∧dS.op=.call ⟨.builtin .recover,args,types⟩∧dS.guard=none∧eo.dst=some s.e∧eo.op=.assign s.x∧eo.guard=none:=by
 unfold AQ at h
 split at h
 case h_2=>cases h
 rename_i id ops rest
 split at h
 case h_2=>cases h
 rename_i dS eo ai
 split at h
 case h_2=>cases h
 rename_i d args types e x aa ae aI bo cI cQ
 cases h
 have Xx:ops=#[dS,eo]:=by apply Array.ext';simp [ai]
 subst Xx
 exact ⟨id,dS,eo,_,_,rfl,aa,ae,aI,bo,cI,cQ⟩
theorem UB (cE:C.P.follows .mixedOrders=true) (bx:ea C.P) {ex:gH} (hex:pD C.P ex):x2 C.P (yL C.P ex):=by
 intro f args u h fG ab he
 unfold yL at he
 cases av:C.P.funcs[f]? with
 | none=>rw [av] at he;cases he
 | some fn=>
   rw [av] at he
   simp only at he
   cases ah:fn.body with
   | none=>rw [ah] at he;cases he
   | some c=>
     rw [ah] at he
     simp only at he
     refine ⟨⟨fn,rfl,by rw [ah];rfl⟩,fun ar E w xs m ai hu s=>?_⟩
     cases fM:Nat.ble fn.ntmps top with
     | false=>rw [fM] at he;cases he
     | true=>
       rw [fM] at he
       simp only [cond_true] at he
       rw [Nat.ble_eq] at fM
       unfold I9 at he
       cases jN:Nat.ble args.length fn.ntmps with
       | false=>rw [jN] at he;cases he
       | true=>
         rw [jN] at he
         simp only [cond_true] at he
         rw [Nat.ble_eq] at jN
         have k:=Jt ai jN fM
         cases aG:AQ c with
         | none=>
           rw [aG] at he
           simp only at he
           obtain ⟨e,r,ad,al,gz,tL,bn,rfl⟩:=I8 he
           refine CallsDIn.mono (callsDIn_of_wp (R:=fun e aj=>∃ao x,e=.returned x∧E.le ao∧aY ar ao ab aj) av ah trivial ?_) fun c0 cX aj az=>?_
           · refine (hex fn.ntmps c none ar _ h (.inl rfl) E _ w k s _ ?_).wp
             rw [al]
             intro ao bg aj au aC aM
             have a1:bg.defers=[]:=by have:=aC.defers;rw [tL] at this;exact this
             obtain ⟨x,bW,b3⟩:=GF (P:=C.P) aC.toRegRel0 aM bn
             rcases gz with rfl | rfl<;>exact ⟨a1,x,bW,ao,x,rfl,au,aM⟩
           · obtain ⟨rfl,ao,x,rfl,au,aM⟩:=az
             exact ⟨ao,x,rfl,au,by rw [hu.settle];exact hu.mono au,aM⟩
         | some ni=>
           rw [aG] at he
           simp only at he
           cases fU:(eG fn.ntmps (some ni.d)&&eG fn.ntmps (some ni.e)) with
           | false=>rw [fU] at he;cases he
           | true=>
             rw [fU] at he
             simp only [cond_true] at he
             simp only [Bool.and_eq_true] at fU
             obtain ⟨e,r,ad,al,gz,tL,bn,rfl⟩:=I8 he
             obtain ⟨id,dS,eo,xG,rt,rfl,g1,g2,g3,g4,g5,g6⟩:=adg aG
             refine callsDIn_of_wpSIn av ah trivial fun rl cs D6=>wpSIn_seq (wpSIn_region ?_)
             obtain ⟨X,cS,rj,eW,cX,kT,XR⟩:∃X,Rel E (u.getD .nilIface) X∧∃rj,(match recoverD (rl::cs) with
              | some (v,Ur)=>v=X∧Ur=rj
              | none=>X=.nilIface∧rj=rl::cs)∧∃cX,rj={rl with mode:=cX}::cs∧settle cX=.returning:=by
              cases u with
              | none=>
                simp only [jg] at hu
                subst hu
                refine ⟨.nilIface,rfl,rl::cs,?_,.returning,?_,rfl⟩
                · simp only [recoverD,D6];exact ⟨trivial,trivial⟩
                · rw [←D6]
              | some v=>
                obtain ⟨x,al,rfl⟩:=hu
                refine ⟨x,al,{rl with mode:=.panicking [{v:=x,recovered:=true}]}::cs,?_,.panicking [{v:=x,recovered:=true}],rfl,rfl⟩
                simp only [recoverD,D6];exact ⟨trivial,trivial⟩
             have bL:=k.put fU.1 cS
             have b0:=bL.put fU.2 (de bL.toRegRel0 ni.x)
             rw [←g1] at b0
             rw [←g4] at b0
             have zH:=(hex fn.ntmps ni.rest none ar _ h (.inl rfl) E _ w b0 s (fun c0 bg aj=>bodyPostS C.P fn rl cs (fun e cX aj=>∃ao x,e=.returned x∧E.le ao∧jg ao none (settle cX)∧aY ar ao ab aj) c0 bg rj aj) (by
              have:NA ni u (kG 0 args .e)=(eR eo.dst).run ((eR dS.dst).run (kG 0 args .e) (u.getD .nilIface)) ((bD ni.x).run ((eR dS.dst).run (kG 0 args .e) (u.getD .nilIface))):=by rw [g1,g4];rfl
              rw [←this,al]
              intro ao bg aj au aC aM
              have a1:bg.defers=[]:=by have:=aC.defers;rw [tL] at this;exact this
              obtain ⟨x,bW,b3⟩:=GF (P:=C.P) aC.toRegRel0 aM bn
              rcases gz with rfl | rfl<;>exact ⟨a1,cX,kT,x,bW,ao,x,rfl,au,XR,aM⟩)).wp
             have K4:=wpSIn_of_wpIn (F:=b8 none) rfl zH
             have o4:∀y,Region.wanted dS y=true:=fun y=>by simp [Region.wanted,g3]
             have o5:∀y,Region.wanted eo y=true:=fun y=>by simp [Region.wanted,g6]
             have XO:∀(ρ:Operand→Value),(execOp ρ dS).run C.P w=.ok .recover w:=fun ρ=>by
              obtain ⟨dst,op,type,pos,after,guard⟩:=dS
              simp only at g2
              subst g2
              rfl
             have wS:∀(ρ:Operand→Value),(execOp ρ eo).run C.P w=.ok (.value (ρ ni.x)) w:=fun ρ=>by
              obtain ⟨dst,op,type,pos,after,guard⟩:=eo
              simp only at g5
              subst g5
              rfl
             have b5:(#[dS,eo]:Array Oper).size=2:=rfl
             rw [b5]
             simp only [List.range_succ,List.range_zero,List.nil_append,List.cons_append,wpOpsSIn]
             have cz:(#[dS,eo]:Array Oper)[0]? =some dS:=rfl
             have aN:(#[dS,eo]:Array Oper)[1]? =some eo:=rfl
             rw [cz]
             simp only [o4,if_true,XO]
             refine ⟨fun _ _=>trivial,?_⟩
             cases KS:recoverD (rl::cs) with
             | none=>
               rw [KS] at eW
               obtain ⟨Wj,mK⟩:=eW
               subst Wj mK
               simp only [aN,o5,if_true,wS]
               exact ⟨fun _ _=>trivial,K4⟩
             | some Ha=>
               obtain ⟨v,afM⟩:=Ha
               rw [KS] at eW
               obtain ⟨rfl,rfl⟩:=eW
               simp only [aN,o5,if_true,wS]
               exact ⟨fun _ _=>trivial,K4⟩
end
end
end Go.Proofs.YthemdhlheglhoaaGreatDoor.a6
namespace Go.Proofs.YthemdhlheglhoaaGreatDoor.a6
variable [Lay]
open Go Go.RowKit
theorem Oa:∀(xs:List V) (x:V),A6 (xs++[x])=some (xs,x)
 | [],x=>rfl
 | [y],x=>rfl
 | y::z::xs,x=>by
   have:=Oa (z::xs) x
   simp only [List.cons_append] at this ⊢
   simp only [A6,this]
theorem RegRel0.putAt {E:Env} {an:Nat} {r:bt} {t:Array Value} {ds:List Deferred} (k:RegRel0 E an r ⟨t,ds⟩) {d:Nat} (a1:d<an) (aA:d≤top) {v:V} {x:Value} (bn:Rel E v x):
 RegRel0 E an (T.put .bad v (aq d) r) ⟨t.setIfInBounds d x,ds⟩:=by
 refine ⟨by simp only [Array.size_setIfInBounds];exact k.size,fun j bB=>?_⟩
 rw [T.gP]
 have b5:=k.size
 simp only at b5
 by_cases h:d=j
 · subst h
   rw [if_pos rfl]
   simp [Array.getD_eq_getD_getElem?,b5,a1,bn]
 · rw [if_neg (fun e=>h (eZ e))]
   have:=k.aB j bB
   simpa [Array.getD_eq_getD_getElem?,Array.getElem?_setIfInBounds,h] using this
theorem Nd {E:Env} {an:Nat} {ds:List Deferred}:∀(ba:List Nat) (ad:List V) (xs:List Value) (r:bt) (t:Array Value),mg an ba=true→a7 E ad xs→RegRel0 E an r ⟨t,ds⟩→
 RegRel0 E an (pe ba ad r) ⟨(ba.zip xs).foldl (fun t (p:Nat × Value)=>t.setIfInBounds p.1 p.2) t,ds⟩
 | [],ad,xs,r,t,_,_,k=>by cases ad<;>exact k
 | p::ba,[],xs,r,t,_,ai,k=>by simp only [a7] at ai;subst ai;exact k
 | p::ba,v::ad,xs,r,t,ag,ai,k=>by
   obtain ⟨y,cu,rfl,aZ,ai⟩:=ai
   simp only [mg,List.all_cons,Bool.and_eq_true,Nat.blt_eq,Nat.ble_eq] at ag
   simp only [pe,List.zip_cons_cons,List.foldl_cons]
   exact Nd ba ad cu _ _ ag.2 ai (k.putAt ag.1.1 ag.1.2 aZ)
theorem Nf {E:Env} {an:Nat} {ds:List Deferred} {ba:Array Nat} {ad:List V} {xs:List Value} {r:bt} {t:Array Value} (ag:mg an ba.toList=true) (ai:a7 E ad xs) (k:RegRel0 E an r ⟨t,ds⟩):
 RegRel0 E an (pe ba.toList ad r) ⟨(ba.zip xs.toArray).foldl (fun t (p:Nat × Value)=>t.setIfInBounds p.1 p.2) t,ds⟩:=by
 rw [←Array.foldl_toList,Array.toList_zip]
 exact Nd ba.toList ad xs r t ag ai k
theorem RegRel0.QC {E:Env} {an:Nat} {r:bt} {a:Act} (k:RegRel0 E an r a) (v:V):RegRel0 E an (T.put .bad v ee r) a:=
 ⟨k.size,fun t aA=>by rw [T.gP,if_neg (fun e=>su aA e.symm)];exact k.aB t aA⟩
section
variable {C:Ctx}
theorem Vq (bx:ea C.P) (cE:C.P.follows .mixedOrders=true) {ex:gH} (hex:pD C.P ex) {f:FuncId} {args:List V} {h:af} {ar:Fr} {E:Env} {w:World} {xs:List Value} (ai:a7 E args xs) (s:aY ar E h w) {R:Ending→World→Prop}
 (ag:ow ar E R ((DG C.P f).run ex args h)):(∃fn,C.P.funcs[f]? =some fn∧fn.body.isSome=true)∧Calls C.P f xs.toArray w R:=by
 unfold DG at ag
 cases av:C.P.funcs[f]? with
 | none=>rw [av] at ag;exact ag.elim
 | some fn=>
   rw [av] at ag
   simp only at ag
   cases ah:fn.body with
   | none=>rw [ah] at ag;exact ag.elim
   | some c=>
     rw [ah] at ag
     simp only at ag
     refine ⟨⟨fn,rfl,by rw [ah];rfl⟩,?_⟩
     cases fM:Nat.ble fn.ntmps top with
     | false=>rw [fM] at ag;exact ag.elim
     | true=>
       rw [fM] at ag
       simp only [cond_true] at ag
       rw [Nat.ble_eq] at fM
       unfold JR at ag
       cases jN:Nat.ble args.length fn.ntmps with
       | false=>rw [jN] at ag;exact ag.elim
       | true=>
         rw [jN] at ag
         simp only [cond_true] at ag
         rw [Nat.ble_eq] at jN
         have k:=Jt ai jN fM
         have jO:=UB (C:=C) cE bx hex
         refine pO.1 (callsIn_of_wp_marks (F:=b8 none) (n:=0) av ah trivial ?_)
         refine (hex fn.ntmps c none ar _ h (.inl rfl) E _ w k s _ ?_).wp
         cases aG:ex fn.ntmps c (kG 0 args .e) h with
         | fail=>rw [aG] at ag;exact ag
         | cp v r aa=>
           rw [aG] at ag
           intro ao bg aj x au aC aM bG
           exact DE (u:=some v) bx jO aC ⟨x,aM,rfl⟩ bG (ow.up au ag)
         | ok e r aa=>
           rw [aG] at ag
           intro ao bg aj au aC aM
           have main:ow ar E R (finish (i' C.P fn.ntmps fn.results.toList) r (kY (yL C.P ex) (T.get .bad ee r).list none aa))→LeavesInM (b8 none) 0 C.P fn bg.tmps R bg.defers .returning aj:=by
            intro ag
            exact DE (u:=none) bx jO aC rfl aM (ow.up au ag)
           cases e with
           | normal=>exact main ag
           | ret=>exact main ag
           | exit id=>exact ag.elim
theorem y_ (bx:ea C.P) (cE:C.P.follows .mixedOrders=true) (gX:ox C) {ex:gH} (hex:pD C.P ex) {f:FuncId} {args:List V} {h:af} {ar:Fr} {E:Env} {w:World} {xs:List Value} (ai:a7 E args xs) (s:aY ar E h w) {R:Ending→World→Prop}
 (ag:ow ar E R ((tv C f).run ex args h)):(∃fn,C.P.funcs[f]? =some fn∧fn.body.isSome=true)∧Calls C.P f xs.toArray w R:=by
 unfold tv at ag
 cases az:C.Gi f with
 | none=>rw [az] at ag;exact Vq bx cE hex ai s ag
 | some p=>
   rw [az] at ag
   simp only at ag
   cases aG:p.run args h with
   | fail=>rw [aG] at ag;exact ag.elim
   | cp _ _=>rw [aG] at ag;exact ag.elim
   | val v ab=>
     rw [aG] at ag
     obtain ⟨aa,ae⟩:=gX.1 f p args h v ab az aG
     refine ⟨aa,(ae ar E w xs ai s).mono fun e aj az=>?_⟩
     obtain ⟨ao,x,rfl,au,aC,aM⟩:=az
     exact ag ao x aj au aC aM
theorem aY.loop {P:Program} {ar:Fr} {E:Env} {h:af} {w:World} (s:aY ar E h w) {b:aO} {l dD:jf} {p:hJ} {o bU:Loop} (aE:h.get b=.cU l) (ag:E b=some p) (cJ:ar.w.heap.size≤p.a8) (bc:w.heap[p.a8]? =some (.loop o)) (aG:q2 E dD bU):
 (setObj p.a8 (.loop bU)).run P w=.ok () {w with heap:=w.heap.setIfInBounds p.a8 (.loop bU)}∧aY ar E (h.set b (.cU dD)) {w with heap:=w.heap.setIfInBounds p.a8 (.loop bU)}:=by
 have jS:=(Array.getElem?_eq_some_iff.1 bc).1
 refine ⟨by simp only [setObj,Sem.run,bc],s.set (p:=p) (by rw [aE];rfl) ag cJ (by simp) (fun j bB=>?_) rfl rfl rfl (fun _ _ _ e=>by cases e) ?_⟩
 · simp only [Array.getElem?_setIfInBounds]
   rw [if_neg (fun e=>bB e.symm)]
 · exact ⟨p,bU,ag,cJ,by simp [jS],aG⟩
theorem run_getLoop {P:Program} {r:Nat} {w:World} {o:Loop} (bc:w.heap[r]? =some (.loop o)):(Instr.getLoop r).run P w=.ok o w:=by
 have:(getObj r).run P w=.ok (.loop o) w:=by simp only [getObj,Sem.run,bc]
 simp only [Instr.getLoop,Sem.run_bind,this,Result.andThen_ok,Sem.run_pure]
theorem NK {ar:Fr} {E:Env} {h ab:af} {w:World} {b:aO} {p:hJ} {e:cY} {v:V} {P:Program} {R:Ending→World→Prop} {a:Act} (s:aY ar E h w) (ag:E b=some p) (he:sB b e h=.val v ab)
 (cv:∀x aj,Rel E v x→aY ar E ab aj→R (.returned x) aj):roundPost P p.a8 R (toExit e) a w:=by
 unfold sB at he
 have ah:=s.at ag
 cases aE:h.get b<;>rw [aE] at he ah<;>simp only at he<;>try (cases he;done)
 rename_i l
 obtain ⟨p',o,e8,cJ,bc,aG⟩:=ah
 rw [ag] at e8;cases e8
 have tP:=run_getLoop (P:=P) bc
 obtain ⟨bw,cb,bS,cP,dK,dw,hd,iG⟩:=aG
 cases e with
 | normal=>
   simp only [aU.val.injEq] at he
   obtain ⟨rfl,rfl⟩:=he
   obtain ⟨aa,ae⟩:=s.loop (P:=P) (dD:=⟨0,none,l.d,l.an,l.r,l.ba,l.assign,l.body⟩) (bU:={o with state:=.ready,pending:=none}) aE ag cJ bc ⟨rfl,rfl,bS,cP,dK,dw,hd,iG⟩
   refine ⟨.bool true,_,?_,cv _ _ rfl ae⟩
   simp only [Instr.endRound,Sem.run_bind,tP,Result.andThen_ok,Option.isNone_none,if_true,aa,Sem.run_pure]
 | ret=>
   simp only [aU.val.injEq] at he
   obtain ⟨rfl,rfl⟩:=he
   obtain ⟨aa,ae⟩:=s.loop (P:=P) (dD:=⟨2,some .ret,l.d,l.an,l.r,l.ba,l.assign,l.body⟩) (bU:={o with state:=.done,pending:=some .ret}) aE ag cJ bc ⟨rfl,rfl,bS,cP,dK,dw,hd,iG⟩
   refine ⟨.bool false,_,?_,cv _ _ rfl ae⟩
   simp only [Instr.endRound,Sem.run_bind,tP,Result.andThen_ok,Option.isNone_some,Bool.false_eq_true,if_false,aa,Sem.run_pure]
 | exit id=>
   simp only [aU.val.injEq] at he
   obtain ⟨rfl,rfl⟩:=he
   obtain ⟨aa,ae⟩:=s.loop (P:=P) (dD:=⟨2,some (.exit id),l.d,l.an,l.r,l.ba,l.assign,l.body⟩) (bU:={o with state:=.done,pending:=some (.exit id)}) aE ag cJ bc ⟨rfl,rfl,bS,cP,dK,dw,hd,iG⟩
   refine ⟨.bool false,_,?_,cv _ _ rfl ae⟩
   simp only [Instr.endRound,Sem.run_bind,tP,Result.andThen_ok,Option.isNone_some,Bool.false_eq_true,if_false,aa,Sem.run_pure]
theorem ads {P:Program} {ex:gH} (hex:pD P ex) {ar:Fr} {E:Env} {h ab:af} {w:World} {args:List V} {xs:List Value} {b:aO} {p:hJ} {v:V} (he:xI ex args b h=.val v ab) (ai:a7 E args xs) (s:aY ar E h w) (ag:E b=some p):
 ∃f tmps assign body,(Instr.yield p.a8 xs.toArray).run P w=.ok (.round p.a8 f tmps assign body) w∧
  RoundIn (b8 none) 0 P p.a8 f tmps assign body w fun e aj=>∃ao x,e=.returned x∧E.le ao∧Rel ao v x∧aY ar ao ab aj:=by
 unfold xI at he
 have ah:=s.at ag
 cases aE:h.get b<;>rw [aE] at he ah<;>simp only at he<;>try (cases he;done)
 rename_i l
 obtain ⟨p',o,e8,cJ,bc,aG⟩:=ah
 rw [ag] at e8;cases e8
 obtain ⟨bw,cb,bS,cP,dK,dw,hd,iG⟩:=aG
 obtain ⟨aF,he⟩:=iq he
 simp only [Bool.and_eq_true,Nat.beq_eq] at aF
 obtain ⟨bE,bR,c3,dh⟩:=aF
 have hlen:=ai.length
 have tY:o.params.size=xs.length:=by rw [←Array.length_toList,bS,hlen,bE]
 refine ⟨o.fn,(o.params.zip xs.toArray).foldl (fun tmps (t,a)=>tmps.setIfInBounds t a) o.tmps,o.assign,o.body,?_,?_⟩
 · simp only [Instr.yield,Sem.run_bind,run_getLoop bc,Result.andThen_ok]
   rw [if_neg (by simp [tY])]
   rfl
 · rw [cP,dK]
   refine roundIn_of_wpIn (F:=b8 none) trivial ?_
   have nX:RegRel0 E l.an l.r ⟨o.tmps,[]⟩:=⟨dw,hd⟩
   rw [←bS] at bR he
   have bL:=(Nf bR ai nX).QC .bad
   have k:eJ E l.an (T.put .bad .bad ee (pe o.params.toList args l.r)) ⟨(o.params.zip xs.toArray).foldl (fun t (p:Nat × Value)=>t.setIfInBounds p.1 p.2) o.tmps,[]⟩:=⟨bL,by rw [T.gP,if_pos rfl];simp [jA]⟩
   have Ya:=hex l.an l.assign (some p.a8) ar _ h (.inr c3) E _ w k s (Exit.then (fun oE py=>∃xS,(Instr.beginRound p.a8).run P py=.ok () xS∧
    l.body.wpIn (b8 (some p.a8)) 0 P (roundPost P p.a8 fun e aj=>∃ao x,e=.returned x∧E.le ao∧Rel ao v x∧aY ar ao ab aj) oE xS) (fun _ _ _=>False))
   refine (Ya ?_).wp
   cases al:ex l.an l.assign (T.put .bad .bad ee (pe o.params.toList args l.r)) h with
   | fail=>rw [al] at he;cases he
   | cp _ _ _=>rw [al] at he;cases he
   | ok e ac2 aa=>
     rw [al] at he
     cases e<;>simp only at he<;>try (cases he;done)
     intro eA bJ bN au aC aM
     unfold AX at he
     have hn:=au _ _ ag
     have iv:=aM.at hn
     cases Ks:aa.get b<;>rw [Ks] at he iv<;>simp only at he<;>try (cases he;done)
     rename_i fb
     obtain ⟨bW,dS,wK,mG,nK,o1⟩:=iv
     rw [hn] at wK;cases wK
     obtain ⟨cm,he⟩:=iq he
     rw [Nat.beq_eq] at cm
     obtain ⟨t1,t2,t3,t4,t5,t6,t7,t8⟩:=o1
     obtain ⟨g1,g2⟩:=aM.loop (P:=P) (dD:=⟨1,fb.dz,fb.d,fb.an,fb.r,fb.ba,fb.assign,fb.body⟩) (bU:={dS with state:=.busy}) Ks hn mG nK ⟨rfl,t2,t3,t4,t5,t6,t7,t8⟩
     refine ⟨{bN with heap:=bN.heap.setIfInBounds p.a8 (.loop {dS with state:=.busy})},?_,?_⟩
     · have wQ:dS.state=.ready:=by rw [t1,cm];rfl
       simp only [Instr.beginRound,Sem.run_bind,run_getLoop nK,Result.andThen_ok,g1,wQ,Sem.run_pure]
     · refine (hex l.an l.body (some p.a8) ar _ _ (.inr dh) eA _ _ aC g2 _ ?_).wp
       cases ui:ex l.an l.body ac2 (aa.set b (.cU ⟨1,fb.dz,fb.d,fb.an,fb.r,fb.ba,fb.assign,fb.body⟩)) with
       | fail=>rw [ui] at he;cases he
       | cp _ _ _=>rw [ui] at he;cases he
       | ok bf ac3 ae=>
         rw [ui] at he
         simp only at he
         intro bX a2 bM cj z2 z3
         exact NK z3 (cj _ _ hn) he fun x aj et f_=>⟨bX,x,rfl,au.trans cj,et,f_⟩
theorem TN (cE:C.P.follows .mixedOrders=true) (bx:ea C.P) (gX:ox C) {ex:gH} (hex:pD C.P ex):fy C.P (oL C ex) where
 fn:=by
  intro ar f args h v ab av he E w xs ai s
  unfold oL at he
  rw [gM,if_neg av] at he
  cases al:C.ext f with
  | some p=>
    rw [al] at he
    simp only at he
    cases aG:p.run args h with
    | fail=>rw [aG] at he;cases he
    | cp _ _=>rw [aG] at he;cases he
    | val v1 aa=>
      rw [aG] at he
      simp only [aU.FT,aU.val.injEq] at he
      obtain ⟨rfl,rfl⟩:=he
      exact .inr (gX.2 f p args h _ _ al aG ar E w xs ai s)
  | none=>
  rw [al] at he
  simp only at he
  exact .inl (y_ bx cE gX hex ai s (by rw [he];exact fun ao x aj au aC aM=>⟨ao,x,rfl,au,aC,aM⟩))
 cp:=by
  intro ar f args h v ab av he E w xs ai s
  unfold oL at he
  rw [gM,if_neg av] at he
  cases al:C.ext f with
  | some p=>
    rw [al] at he
    simp only at he
    cases aG:p.run args h<;>rw [aG] at he<;>cases he
  | none=>
  rw [al] at he
  simp only at he
  exact y_ bx cE gX hex ai s (by rw [he];exact fun ao x aj au aC aM=>⟨ao,x,rfl,au,aC,aM⟩)
 OY:=by
  intro ar args b h v ab he E w xs p ai s ag
  unfold oL at he
  rw [gM,if_pos rfl] at he
  unfold GI at he
  rw [Oa] at he
  exact ads hex he ai s ag
 O0:=by
  intro args h v ab he
  unfold oL at he
  rw [gM,if_pos rfl] at he
  have aN:∀b e h,sB b e h≠.cp v ab:=by
   intro b e h he
   unfold sB at he
   split at he
   · cases e<;>cases he
   · cases he
  have bf:∀an c b r h,AX ex an c b r h≠.cp v ab:=by
   intro an c b r h he
   unfold AX at he
   split at he
   case h_2=>cases he
   rename_i l ai
   cases aF:Nat.beq l.st 0 with
   | false=>rw [aF] at he;cases he
   | true=>
     rw [aF] at he
     simp only [cond_true] at he
     split at he
     · exact aN _ _ _ he
     · cases he
  have bT:∀xs b h,xI ex xs b h≠.cp v ab:=by
   intro xs b h he
   unfold xI at he
   split at he
   case h_2=>cases he
   rename_i l ai
   cases aF:(Nat.beq xs.length l.ba.length&&(mg l.an l.ba&&(noMark l.assign&&noMark l.body))) with
   | false=>rw [aF] at he;cases he
   | true=>
     rw [aF] at he
     simp only [cond_true] at he
     split at he
     case h_2=>cases he
     rename_i e r aa _
     cases e<;>simp only at he<;>try (cases he;done)
     exact bf _ _ _ _ _ he
  unfold GI at he
  split at he
  case h_2=>cases he
  split at he
  case h_2=>cases he
  exact bT _ _ _ he
end
end Go.Proofs.YthemdhlheglhoaaGreatDoor.a6
namespace Go.Proofs.YthemdhlheglhoaaGreatDoor.a6
variable [Lay]
open Go Go.RowKit
section
variable {C:Ctx}
theorem U8 {P:Program} {e:cY} {Q:Exit→Act→World→Prop} {a:Act} {w:World} (h:Q (toExit e) a w):(DD e).wpIn (b8 none) 0 P Q a w:=by
 cases e with
 | normal=>exact wpIn_skip h
 | exit id=>exact wpIn_exit h
 | ret=>exact wpIn_ret h
theorem ada (cE:C.P.follows .mixedOrders=true) (bx:ea C.P) (gX:ox C) {ex:gH} (hex:pD C.P ex) {f:Operand} {ba:Array Tmp} {assign body:Code} {an:Nat} {ar:Fr} {E:Env} {r:bt} {h:af} {a:Act} {w:World} {Q:Exit→Act→World→Prop}
 (k:eJ E an r a) (s:aY ar E h w) (ag:s5 ar E an Q (Gt (fun g args h=>(tv C g).run ex args h) (bD f) ba.toList an assign body r h)):(Code.rangeFunc f ba assign body).wpIn (b8 none) 0 C.P Q a w:=by
 unfold Gt at ag
 have av:=de k.toRegRel0 f
 generalize (bD f).run r=sM at ag av
 cases sM<;>simp only at ag<;>try (exact ag.elim)
 rename_i g cs
 rw [gM] at ag
 by_cases aE:g=c4
 · rw [if_pos aE] at ag;exact ag.elim
 · rw [if_neg aE] at ag
   simp only [Rel] at av
   rcases av with ⟨_,eb,cS,ai⟩ | ⟨Ei,_⟩
   case inr=>exact absurd Ei aE
   refine wpIn_rangeFunc fun fn _=>?_
   have f0:=s.fresh h.next (Nat.le_refl _)
   obtain ⟨eA,rH⟩:∃eA,eA=E.put (aq h.next) ⟨w.heap.size,0,0⟩:=⟨_,rfl⟩
   obtain ⟨bN,o4⟩:∃bN:World,bN={w with heap:=w.heap.push (.deferred (some []))}:=⟨_,rfl⟩
   have wN:eA (aq h.next)=some ⟨w.heap.size,0,0⟩:=by rw [rH];unfold Env.put;rw [if_pos rfl]
   have s1:aY ar eA (h.new .eE) bN:=by
    rw [rH,o4]
    refine s.alloc 0 ⟨⟨w.heap.size,0,0⟩,by unfold Env.put;rw [if_pos rfl],s.frame.size,by simp⟩
   have l8:E.le eA:=by rw [rH];exact Env.j0 f0
   have r9:bN.heap.size=w.heap.size+1:=by rw [o4];simp
   obtain ⟨o,aS⟩:∃o:Loop,o={state:=.ready,pending:=none,fn,tmps:=a.tmps,params:=ba,assign,body,defers:=w.heap.size}:=⟨_,rfl⟩
   obtain ⟨bX,oR⟩:∃bX,bX=eA.put (aq (h.next+1)) ⟨bN.heap.size,0,0⟩:=⟨_,rfl⟩
   obtain ⟨bM,o5⟩:∃bM:World,bM={bN with heap:=bN.heap.push (.loop o)}:=⟨_,rfl⟩
   have f1:eA (aq (h.next+1))=none:=s1.fresh (h.next+1) (Nat.le_refl _)
   have jZ:eA.le bX:=by rw [oR];exact Env.j0 f1
   have wO:bX (aq (h.next+1))=some ⟨bN.heap.size,0,0⟩:=by rw [oR];unfold Env.put;rw [if_pos rfl]
   have cU:q2 bX ⟨0,none,aq h.next,an,r,ba.toList,assign,body⟩ o:=by
    subst aS
    exact ⟨rfl,rfl,rfl,rfl,rfl,k.size,fun t aA=>Rel.mono (l8.trans jZ) _ _ (k.aB t aA),_,jZ _ _ wN,rfl⟩
   have s2:aY ar bX ((h.new .eE).new (.cU ⟨0,none,aq h.next,an,r,ba.toList,assign,body⟩)) bM:=by
    rw [oR,o5]
    refine s1.alloc 0 ⟨⟨bN.heap.size,0,0⟩,o,by show eA.put (aq (h.next+1)) _ (aq (h.next+1))=_;unfold Env.put;rw [if_pos rfl],by show ar.w.heap.size≤bN.heap.size;rw [r9];have:=s.frame.size;omega,by simp,?_⟩
    have:=cU
    rw [oR] at this
    exact this
   obtain ⟨gD,mO⟩:∃gD,gD=bN.heap.size:=⟨_,rfl⟩
   have aZ:Rel bX (.func c4 [.ptr (aq (h.next+1)) 0]) (.func (.yield gD) #[] #[]):=by
    simp only [Rel]
    exact .inr ⟨trivial,_,_,rfl,wO,by rw [mO]⟩
   have mI:a7 bX (.func c4 [.ptr (aq (h.next+1)) 0]::cs) (.func (.yield gD) #[] #[]::eb.toList):=by
    simp only [a7]
    exact ⟨_,_,rfl,aZ,a7.mono (l8.trans jZ) _ _ ai⟩
   have cw:=y_ (C:=C) bx cE gX hex (f:=g) mI s2 (R:=rangePost (b8 none) 0 C.P gD Q {a with defers:=[{target:=.collected w.heap.size,args:=#[]}]++a.defers})
   cases aG:(tv C g).run ex (.func c4 [.ptr (aq (h.next+1)) 0]::cs) ((h.new .eE).new (.cU ⟨0,none,aq h.next,an,r,ba.toList,assign,body⟩)) with
   | fail=>rw [aG] at ag;exact ag.elim
   | cp _ _=>rw [aG] at ag;exact ag.elim
   | val v ab=>
     rw [aG] at ag cw
     simp only at ag
     obtain ⟨⟨Vp,ix,ah⟩,aF⟩:=cw (by
      intro ao x aj au aC aM
      simp only [rangePost]
      unfold Nv at ag
      have hD:=au _ _ wO
      have ah:=aM.at hD
      cases tP:ab.get (aq (h.next+1))<;>rw [tP] at ag ah<;>simp only at ag<;>try (exact ag.elim)
      rename_i l
      obtain ⟨p',bU,e8,cJ,bc,Ev⟩:=ah
      rw [hD] at e8;cases e8
      obtain ⟨t1,t2,t3,t4,t5,t6,t7,t8⟩:=Ev
      rw [gM] at ag
      by_cases cm:l.st=1
      · rw [if_pos cm] at ag;exact ag.elim
      · rw [if_neg cm] at ag
        simp only at bc
        rw [←mO] at bc
        have ED:(bU.state == LoopState.busy)=false:=by
         rw [t1]
         match mM:l.st with
         | 0=>rfl
         | 1=>exact absurd mM cm
         | n+2=>rfl
        have jS:=(Array.getElem?_eq_some_iff.1 bc).1
        let h1:World:={aj with heap:=aj.heap.setIfInBounds gD (.loop {bU with state:=.exhausted})}
        have e':(Instr.endLoop gD).run C.P aj=.ok bU.pending h1:=by
         have o2:(setObj gD (.loop {bU with state:=.exhausted})).run C.P aj=.ok () h1:=by simp only [setObj,Sem.run,bc];rfl
         simp only [Instr.endLoop,Sem.run_bind,run_getLoop bc,Result.andThen_ok,ED,Bool.false_eq_true,if_false,o2,Sem.run_pure]
        have uX:aY ar ao (ab.set (aq (h.next+1)) .dead) h1:=by
         refine aM.gone (p:=⟨bN.heap.size,0,0⟩) (by rw [tP];rfl) hD cJ (by simp [h1]) (fun j bB=>?_) rfl rfl rfl
         simp only at bB
         simp only [h1,Array.getElem?_setIfInBounds]
         rw [if_neg (fun e=>bB (by rw [←e,mO]))]
        have fV:eJ ao an (T.put .bad (.tuple (.ptr (aq h.next) 0::(T.get .bad ee r).list)) ee r) {a with defers:=[{target:=.collected w.heap.size,args:=#[]}]++a.defers}:=by
         refine ⟨⟨k.size,fun t aA=>?_⟩,?_⟩
         · rw [T.gP,if_neg (fun e=>su aA e.symm)]
           exact Rel.mono (l8.trans (jZ.trans au)) _ _ (k.aB t aA)
         · rw [T.gP,if_pos rfl]
           simp only [jA,k',List.cons_append,List.nil_append]
           exact ⟨_,_,rfl,⟨_,au _ _ (jZ _ _ wN),rfl⟩,(k.defers.mono (l8.trans (jZ.trans au))).list⟩
        refine ⟨bU.pending,h1,e',?_⟩
        rw [t2]
        cases hP:l.dz with
        | none=>
          rw [hP] at ag
          exact ag ao _ h1 (l8.trans (jZ.trans au)) fV uX
        | some e=>
          rw [hP] at ag
          exact U8 (ag ao _ h1 (l8.trans (jZ.trans au)) fV uX))
     refine ⟨gD,[{target:=.collected w.heap.size,args:=#[]}],bM,{target:=.fn (.func g) eb,args:=#[]++#[.func (.yield gD) #[] #[]]},bM,g,_,bM,?_,?_,fun _ _=>trivial,?_,fun h=>by simp at h,pO.2 aF⟩
     · subst aS o5 o4
       have he:=run_enterLoop_outer (P:=C.P) (w:=w) fn a.tmps ba assign body
       rw [World.alloc,World.alloc] at he
       simp only [Array.size_push] at mO ⊢
       rw [mO]
       exact he
     · simp only [resolve,cS,Deferred.ofValue,Sem.run_pure]
       simp [Act.eval]
     · simp only [invoke]
       have e:(#[]++#[Value.func (.yield gD) #[] #[]]:Array Value)++eb=(Value.func (.yield gD) #[] #[]::eb.toList).toArray:=by apply Array.ext';simp
       rw [e]
       exact qG bx ix ah _ bM
theorem u3 {P:Program} {b:Frame} {a:Act} {k:List Item} {cs:List Frame} {w:World} {c:Code}:
 step P (lone (b.atR a (.code (.scope c)::k)) cs w)=.next (lone (b.atR a (.code c::.inScope c::k)) cs w):=
 step_lone_go (by simp [stepG,stepG.exec,Frame.atR])
theorem aef {P:Program} {b:Frame} {a:Act} {k:List Item} {cs:List Frame} {w:World} {c:Code}:
 step P (lone (b.atR a (.inScope c::k)) cs w)=.next (lone (b.atR a k) cs w):=
 step_lone_go (by simp [stepG,stepG.exec,Frame.atR])
theorem NV {P:Program} {rd:Option Nat} {c:Code} {Q:Exit→Act→World→Prop} {a:Act} {w:World} (h:c.wpIn (b8 rd) 0 P (Exit.noGoto Q) a w):(Code.scope c).wpIn (b8 rd) 0 P Q a w:=by
 intro b k cs jV ah aG
 obtain ⟨e,oE,py,az,h7⟩:=h b (.inScope c::k) cs jV ah aG
 have al:∀id,exitTo id (.inScope c::k)=exitTo id k:=fun id=>by simp [exitTo]
 cases e with
 | normal=>exact ⟨.normal,oE,py,az,.head (nF _) u3 (StepsIn.trans h7 (.one (nF _) aef))⟩
 | exit id=>exact ⟨.exit id,oE,py,az,fun bp ax=>.head (nF _) u3 (h7.1 bp (by rw [al];exact ax)),fun o0 ax=>let ⟨k₁,aa,ae⟩:=h7.2 o0 (by rw [al];exact ax);⟨k₁,aa,.head (nF _) u3 ae⟩⟩
 | goto l=>exact az.elim
 | ret=>exact ⟨_,oE,py,az,.of_steps (.one (nF _) u3) h7⟩
 | panic afK=>exact ⟨_,oE,py,az,.of_steps (.one (nF _) u3) h7⟩
 | outgrown=>exact ⟨_,oE,py,az,.of_steps (.one (nF _) u3) h7⟩
theorem Ud (cE:C.P.follows .mixedOrders=true) (bx:ea C.P) (gX:ox C) {ex:gH} (hex:pD C.P ex) (an:Nat):∀c:Code,Hs C.P an c ((hK C an c).run ex):=by
 have cw:=TN cE bx gX hex
 have c9:=TL (C:=C) ex
 intro c
 induction c with
 | skip=>
   intro rd ar r h aG E a w k s Q ag
   exact wpIn_skip (ag E a w (Env.le.refl E) k s)
 | label l=>
   intro rd ar r h aG E a w k s Q ag
   exact wpIn_label (ag E a w (Env.le.refl E) k s)
 | exit id=>
   intro rd ar r h aG E a w k s Q ag
   exact wpIn_exit (ag E a w (Env.le.refl E) k s)
 | ret=>
   intro rd ar r h aG E a w k s Q ag
   exact wpIn_ret (ag E a w (Env.le.refl E) k s)
 | region id ops draw=>
   intro rd ar r h aG E a w k s Q ag
   have lift:∀x:lI,s5 ar E an Q (match x with | .ok bq ab=>.ok .normal bq ab | .cp v bq ab=>.cp v bq ab | .fail=>.fail)→la ar E an (Q .normal) Q x:=by
    intro x al
    cases x<;>exact al
   cases draw with
   | true=>
     simp only [hK,cond_true,AR] at ag
     exact UJ cE bx cw c9 (lift _ ag) k s
   | false=>
     simp only [hK,cond_false,AR] at ag
     refine wpIn_region ?_
     have:=MG (rd:=rd) (Q:=Q) bx cw c9 ops.toList 0 (fun j=>by simp) (aG.imp (fun h=>h) fun h=>by simpa only [noMark,List.all_eq_true] using h) E r h a w (lift _ ag) k s
     rw [List.range_eq_range']
     simpa using this
 | seq x y sb sc=>
   intro rd ar r h aG E a w k s Q ag
   simp only [hK,NW] at ag
   have t_:rd=none∨noMark x=true:=aG.imp (fun h=>h) fun h=>by simp only [noMark,Bool.and_eq_true] at h;exact h.1
   have E0:rd=none∨noMark y=true:=aG.imp (fun h=>h) fun h=>by simp only [noMark,Bool.and_eq_true] at h;exact h.2
   refine wpIn_seq (sb rd ar r h t_ E a w k s _ ?_).wp
   cases al:(hK C an x).run ex r h with
   | fail=>rw [al] at ag;exact ag
   | cp v bw aa=>rw [al] at ag;exact ag
   | ok aN bw aa=>
     rw [al] at ag
     simp only at ag
     intro ao bg aj au aC aM
     cases aN with
     | normal=>exact (sc rd ar bw aa E0 ao bg aj aC aM Q (ag.up au)).wp
     | exit id=>exact ag ao bg aj au aC aM
     | ret=>exact ag ao bg aj au aC aM
 | cond c x y sb sc=>
   intro rd ar r h aG E a w k s Q ag
   simp only [hK,IT] at ag
   have t_:rd=none∨noMark x=true:=aG.imp (fun h=>h) fun h=>by simp only [noMark,Bool.and_eq_true] at h;exact h.1
   have E0:rd=none∨noMark y=true:=aG.imp (fun h=>h) fun h=>by simp only [noMark,Bool.and_eq_true] at h;exact h.2
   have aF:=de k.toRegRel0 c
   cases bn:(bD c).run r<;>rw [bn] at ag aF<;>simp only at ag<;>try (exact ag.elim)
   rename_i t
   simp only [Rel] at aF
   cases t with
   | true=>exact wpIn_cond_true aF (sb rd ar r h t_ E a w k s Q ag).wp
   | false=>exact wpIn_cond_false aF (sc rd ar r h E0 E a w k s Q ag).wp
 | block id x bh=>
   intro rd ar r h aG E a w k s Q ag
   simp only [hK,H_] at ag
   refine wpIn_block (bh rd ar r h (aG.imp (fun h=>h) fun h=>h) E a w k s _ ?_).wp
   cases al:(hK C an x).run ex r h with
   | fail=>rw [al] at ag;exact ag
   | cp v bw aa=>rw [al] at ag;exact ag
   | ok aN bw aa=>
     rw [al] at ag
     simp only at ag
     intro ao bg aj au aC aM
     cases aN with
     | normal=>exact ag ao bg aj au aC aM
     | ret=>exact ag ao bg aj au aC aM
     | exit i=>
       simp only [gM] at ag
       simp only [toExit,Exit.inBlock]
       by_cases aD:i=id
       · rw [if_pos aD] at ag ⊢;exact ag ao bg aj au aC aM
       · rw [if_neg aD] at ag ⊢;exact ag ao bg aj au aC aM
 | loop x bh=>
   intro rd ar r h aG E a w k s Q ag
   simp only [hK,L8] at ag
   have t_:rd=none∨noMark x=true:=aG.imp (fun h=>h) fun h=>h
   intro b cM cs jV
   cases al:(hK C an x).run ex r h with
   | fail=>rw [al] at ag;exact ag.elim
   | cp v bw aa=>
     rw [al] at ag
     have body:=(bh rd ar r h t_ E a w k s (fun c0 bg aj=>∃y,c0=.panic y∧Q c0 bg aj) (by rw [al];exact fun ao bg aj x au aC aM bG=>⟨_,rfl,ag ao bg aj x au aC aM bG⟩)).wp b (.inLoop x::cM) cs jV trivial (GH _)
     obtain ⟨bf,a2,bM,⟨y,rfl,q⟩,h7⟩:=body
     exact ⟨_,a2,bM,q,.pass (x:=.inLoop x) rfl (fun _ _=>.inl (by simp)) h7⟩
   | ok aN bw aa=>
     rw [al] at ag
     simp only at ag
     have body:=(bh rd ar r h t_ E a w k s
      (fun c0 bg aj=>c0=toExit aN∧∃ao,E.le ao∧eJ ao an bw bg∧aY ar ao aa aj) (by rw [al];exact fun ao bg aj au aC aM=>⟨rfl,ao,au,aC,aM⟩)).wp b (.inLoop x::cM) cs jV trivial (GH _)
     obtain ⟨bf,a2,bM,⟨rfl,bX,au,aC,aM⟩,h7⟩:=body
     cases aN with
     | normal=>
       have next:=hex an (.loop x) rd ar bw aa aG bX a2 bM aC aM Q (ag.up au)
       obtain ⟨bT,a3,mu,bW,b3⟩:=next b cM cs jV
       exact ⟨bT,a3,mu,bW,.of_steps (StepsIn.trans h7 (.one (nF _) stepR_inLoop)) b3⟩
     | exit id=>exact ⟨.exit id,a2,bM,ag bX a2 bM au aC aM,.pass (x:=.inLoop x) rfl (fun _ _=>.inl (by simp)) h7⟩
     | ret=>exact ⟨.ret,a2,bM,ag bX a2 bM au aC aM,.pass (x:=.inLoop x) rfl (fun _ _=>.inl (by simp)) h7⟩
 | scope x bh=>
   intro rd ar r h aG E a w k s Q ag
   simp only [hK] at ag
   refine NV (bh rd ar r h (aG.imp (fun h=>h) fun h=>h) E a w k s _ ?_).wp
   cases al:(hK C an x).run ex r h with
   | fail=>rw [al] at ag;exact ag
   | cp v bw aa=>rw [al] at ag;exact ag
   | ok aN bw aa=>
     rw [al] at ag
     intro ao bg aj au aC aM
     have:=ag ao bg aj au aC aM
     cases aN<;>exact this
 | rangeFunc f ba x y _ _=>
   intro rd ar r h aG E a w k s Q ag
   rcases aG with rfl | aG
   case inr=>cases aG
   simp only [hK] at ag
   exact ada cE bx gX hex k s ag
 | goto l=>intro rd ar r h aG E a w k s Q ag;exact ag.elim
 | refuse aeZ=>intro rd ar r h aG E a w k s Q ag;exact ag.elim
end
end Go.Proofs.YthemdhlheglhoaaGreatDoor.a6
namespace Go.Proofs.YthemdhlheglhoaaGreatDoor.a6
variable [Lay]
open Go Go.RowKit
section
variable {C:Ctx}
theorem JB (cE:C.P.follows .mixedOrders=true) (bx:ea C.P) (gX:ox C):∀n,pD C.P (exec C n)
 | 0=>fun an c rd ar r h aG E a w k s Q ag=>ag.elim
 | n+1=>fun an c=>Ud cE bx gX (JB cE bx gX n) an c
theorem TM (cE:C.P.follows .mixedOrders=true) (bx:ea C.P) (gX:ox C) {n:Nat} {f:FuncId} {args:List V} {h ab:af} {v:V} (av:Nat.beq f c4=false) (al:C.ext f=none) (he:yD C n f args h=.val v ab)
 {ar:Fr} {E:Env} {w:World} {xs:List Value} (ai:a7 E args xs) (s:aY ar E h w):
 (∃fn,C.P.funcs[f]? =some fn∧fn.body.isSome=true)∧Calls C.P f xs.toArray w fun e aj=>∃ao x,e=.returned x∧E.le ao∧Rel ao v x∧aY ar ao ab aj:=by
 unfold yD oL at he
 rw [av,cond_false,al] at he
 simp only at he
 exact y_ bx cE gX (JB cE bx gX n) ai s (by rw [he];exact fun ao x aj au aC aM=>⟨ao,x,rfl,au,aC,aM⟩)
theorem N3 (w:World) (hw:Lay.ok w):aY ⟨w,fun _=>none⟩ (fun _=>none) af.empty w:=by
 refine ⟨fun b _=>?_,fun _ _ h=>(by cases h),(fun b bC p p' _ _ h=>by cases h),fun _ _=>rfl,Below.refl _ _,hw,(fun _ _ _ _ _ _ h=>by cases h)⟩
 have:af.empty.get b=.dead:=by simp [af.get,af.empty]
 rw [this]
 trivial
theorem aeJ (cE:C.P.follows .mixedOrders=true) (bx:ea C.P) {w:World} (hw:Lay.ok w) (gX:ox C) {n:Nat} {f:FuncId} (av:Nat.beq f c4=false) (al:C.ext f=none) (h:G_ C n f []=true):
 Calls C.P f #[] w fun e aj=>e=.returned (.bool true)∧Below w.heap.size w aj:=by
 unfold G_ at h
 cases aF:yD C n f [] af.empty with
 | fail=>rw [aF] at h;cases h
 | cp _ _=>rw [aF] at h;cases h
 | val v bc=>
   rw [aF] at h
   simp only at h
   cases v<;>simp only at h<;>try (cases h;done)
   subst h
   obtain ⟨_,iR⟩:=TM cE bx gX av al aF (ar:=⟨w,fun _=>none⟩) (E:=fun _=>none) (w:=w) (xs:=[]) rfl (N3 w hw)
   refine iR.mono fun e aj az=>?_
   obtain ⟨ao,x,rfl,_,aC,aM⟩:=az
   simp only [Rel] at aC
   subst aC
   exact ⟨rfl,aM.frame⟩
end
end Go.Proofs.YthemdhlheglhoaaGreatDoor.a6
