/- The abstract machine and its walks (a verified interpreter of the model's code: plain definitions and lemmas, no condition). Printed by a program from longer texts: names made short. -/
import Derived.Test.YtgmhjhgoamjeeaaGreatDoorM2
import Derived.Scope
import Derived.RangeFuncRecord
import Derived.Carry
import Derived.OpenShut
import Derived.ChangeSame
import Derived.Lib.Bytealg
import Derived.Lib.IndexMore
import Derived.Handed
import Derived.HandedShaped
set_option linter.unusedSectionVars false
set_option linter.unusedSimpArgs false
set_option linter.unusedVariables false
set_option maxHeartbeats 64000000
noncomputable section
namespace Go.Proofs.YtgmhjhgoamjeeaaGreatDoor.aX
section
open Go Go.RowKit
variable [Lay]
theorem DG {α:Type} (p q:α->Bool):∀(l:List α),(∀x ∈ l,q x=true->p x=true)->(∃x ∈ l,p x=true/\q x=false)->l.countP q<l.countP p
 | [],_,h=>by obtain ⟨x,aj,_⟩:=h;simp at aj
 | a::l,aa,ad=>by
   have hle:l.countP q<=l.countP p:=List.countP_mono_left fun x aj=>aa x (by simp [aj]);obtain ⟨x,aj,af,az⟩:=ad;simp only [apJ] at aj;rcases aj with rfl | aj
   . rw [List.countP_cons,List.countP_cons,af,az];simp;omega
   . have bb:=DG p q l (fun y a6=>aa y (by simp [a6])) ⟨x,aj,af,az⟩;have bt:=aa a (by simp);rw [List.countP_cons,List.countP_cons];cases aeu:q a with
     | true=>rw [bt aeu];simp;omega
     | false=>simp;omega
theorem xM (e:Edge):Region.binds .any e=vq e:=by unfold Region.binds vq;cases e.ground<;>rfl
section
variable {P:Program}
theorem uN {order:List Nat}:∀{bn:List Nat} {k j p:Nat},Ce order k bn=true->bn[j]? =some p->order[p]? =some (k+j)
 | [],_,j,p,_,h=>by simp at h
 | q::bn,k,j,p,af,h=>by
   simp only [Ce,apq] at af;cases j with
   | zero=>
     simp only [apK,aps] at h;subst h;have aa:=af.1;cases az:order[q]? with
     | none=>rw [az] at aa;cases aa
     | some i=>rw [az] at aa;rw [apV] at aa;rw [aa];rfl
   | succ j=>
     have:=uN af.2 (show bn[j]? =some p by simpa using h);rw [this];congr 1;omega
theorem nf {ops:Array Oper}:∀{order:List Nat} {p i:Nat} {o:Oper},order[p]? =some i->ops[i]? =some o->(hc ops order)[p]? =some o
 | [],p,i,o,h,_=>by simp at h
 | x::xs,p,i,o,h,aU=>by
   cases p with
   | zero=>
     simp only [apK,aps] at h;subst h;simp [hc,aU]
   | succ p=>simpa [hc] using nf (show xs[p]? =some i by simpa using h) aU
theorem qb {ops:Array Oper}:∀{order:List Nat},(hc ops order).length=order.length
 | []=>rfl
 | x::xs=>by simp [hc,qb (order:=xs)]
structure Cert (P:Program) (aq:Nat) (ops:Array Oper) (calls:Nat->dO) (es:List eK) (bh:bC) (aY:ae) (cZ:bC) (av:ae) (en:List Nat) (order aD:List Nat) (N M:Nat) (lit:Bool):Prop where
 len:es.length=N
 B4:N<=ops.size
 Ty:N<=M
 h4:∀k,k<ops.size->posOf aD k<ops.size/\order[posOf aD k]? =some k
 lo:∀p,p<ops.size->∃i,i<ops.size/\posOf aD i=p
 aY:b' es av 0=aY
 bh:eb es cZ 0=bh
 step:∀i o,ops[i]? =some o->posOf aD i<N->∃e,es[posOf aD i]? =some e/\(cE P aq ops o).run (calls i) e.r e.h=.val e.v (b' es av (posOf aD i+1))/\eb es cZ (posOf aD i+1)=(ft o.dst).run e.r e.v
 mO:∀i o,ops[i]? =some o->∃cN,(eE [] ops.toList)[i]? =some cN/\mq i o=true/\(posOf aD i<M->
  ∀k ok,ops[k]? =some ok->posOf aD k<M->∃mk,(eE [] ops.toList)[k]? =some mk/\o4 i cN (bY ops o) o.dst k mk ok (Nat.blt (posOf aD k) (posOf aD i))=true/\(eN P o.op=true->dY P ok=true->posOf aD k<posOf aD i->fC cN k=true\/(lit=true/\la o=true/\la ok=true)))
 ends:N ∈ en
 mem:∀j o,ops[j]? =some o->dY P o=true->posOf aD j ∈ en
 Vm:∀s ∈ en,(s=ops.size\/(s=N/\M=N))\/∃k o,ops[k]? =some o/\dY P o=true/\s=posOf aD k
 ask:∀j o,ops[j]? =some o->looks o.op=true->eN P o.op=false->posOf aD j<N->∃e,es[posOf aD j]? =some e/\∀s ∈ en,
  sV P (eE [] ops.toList) ops.toList aD j (((eE [] ops.toList)[j]?).getD 0) s=true->∃c ab,(gq P c/\gJ P c)/\(cE P aq ops o).run c e.r (b' es av s)=.val e.v ab
 tail:M<ops.size->M=N/\∀k ok mk,ops[k]? =some ok->N<=posOf aD k->(eE [] ops.toList)[k]? =some mk->∀j,j<ops.size->posOf aD j<N->fC mk j=true
 stop:N<ops.size->ops.size<=M->∃i0 gE m0,ops[i0]? =some gE/\posOf aD i0=N/\lM gE.op=true/\(eE [] ops.toList)[i0]? =some m0/\
  (∀k ok mk,ops[k]? =some ok->N<posOf aD k->(eE [] ops.toList)[k]? =some mk->fC mk i0=true)/\
  (∀k ok,ops[k]? =some ok->gh ok=true->posOf aD k<N->fC m0 k=true)/\∃v ab,(cE P aq ops gE).run (calls i0) cZ av=.cK v ab
theorem Tk {o:Oper} (h:lM o.op=true):eN P o.op=true/\gh o=false:=by
 obtain ⟨dst,op,type,pos,after,guard⟩:=o;cases op<;>simp only [lM] at h<;>try (cases h;done)
 . rename_i c;obtain ⟨callee,args,types⟩:=c;cases callee<;>simp only at h<;>try (cases h;done)
   exact ⟨rfl,rfl⟩
 . exact ⟨rfl,rfl⟩
variable {aq:Nat} {ops:Array Oper} {call:dO} {calls:Nat->dO} {es:List eK} {bh:bC} {aY:ae} {cZ:bC} {av:ae} {en:List Nat} {order aD:List Nat} {N M:Nat} {lit:Bool}
theorem Cert.wX (C:Cert P aq ops calls es bh aY cZ av en order aD N M lit) {k br:Nat} (aa:k<ops.size) (ad:br<ops.size) (he:posOf aD k=posOf aD br):k=br:=by have a:=(C.h4 k aa).2;have b:=(C.h4 br ad).2;rw [he,b] at a;cases a;rfl
theorem PQ {ops:Array Oper} {aD:List Nat} (av:vw P ops aD=true):∀i o,ops[i]? =some o->∃cN,(eE [] ops.toList)[i]? =some cN/\mq i o=true/\
 ∀k ok,ops[k]? =some ok->∃mk,(eE [] ops.toList)[k]? =some mk/\o4 i cN (bY ops o) o.dst k mk ok (Nat.blt (posOf aD k) (posOf aD i))=true/\(eN P o.op=true->dY P ok=true->posOf aD k<posOf aD i->fC cN k=true):=by
 intro i o ax;unfold vw at av;obtain ⟨cN,aa,ad⟩:=qw av i o (by simpa using ax);simp only [apW,apq] at ad;refine ⟨cN,aa,ad.1,fun k ok aB=>?_⟩;obtain ⟨mk,b7,cj⟩:=qw ad.2 k ok (by simpa using aB);simp only [apW,apq] at cj;refine ⟨mk,b7,cj.1,fun aK aS aR=>?_⟩;have ei:=cj.2;rw [aK,aS,ap6,show Nat.blt (posOf aD k) (posOf aD i)=true from by rw [apR];exact aR] at ei;exact ei
theorem Cert.Lv (C:Cert P aq ops calls es bh aY cZ av en order aD N M lit):∀p,p<=N->∀t,t<=top->
 (∃k o e,posOf aD k<p/\ops[k]? =some o/\o.dst=some t/\es[posOf aD k]? =some e/\T.get .bad (aw t) (eb es cZ p)=e.v)\/
 ((∀k o,posOf aD k<p->ops[k]? =some o->o.dst≠some t)/\T.get .bad (aw t) (eb es cZ p)=T.get .bad (aw t) bh)
 | 0,_,t,aE=>.inr ⟨fun k o h=>by omega,by rw [C.bh]⟩
 | p+1,ax,t,aE=>by
   obtain ⟨i,aR,jH⟩:=C.lo p (by have:=C.B4;omega);have cv:ops[i]? =some ops[i]:=apL aR;obtain ⟨e,aa,ad,aJ⟩:=C.step i ops[i] cv (by omega);rw [jH] at aa ad aJ;have JR:eb es cZ p=e.r:=by simp [eb,aa]
   have dF:=QQ (r:=e.r) (v:=e.v) (ko ad).1 aE;rw [aJ,dF];by_cases aH:ops[i].dst=some t
   . rw [apz aH];exact .inl ⟨i,_,e,by omega,cv,aH,by rw [jH];exact aa,rfl⟩
   . rw [apw aH,<-JR];rcases Cert.Lv C p (by omega) t aE with ⟨k,o,cC,ak,al,aI,bB,cG⟩ | ⟨ak,al⟩
     . exact .inl ⟨k,o,cC,by omega,al,aI,bB,cG⟩
     . refine .inr ⟨fun k o aB aU=>?_,al⟩;by_cases gd:k=i
       . subst gd;rw [cv] at aU;cases aU;exact aH
       . refine ak k o ?_ aU;have kA:=(apt.1 aU).1;have:posOf aD k≠p:=fun e=>gd (C.wX kA aR (by rw [e,jH]));omega
theorem Cert.H_ (C:Cert P aq ops calls es bh aY cZ av en order aD N M lit):∀p,p<=N->T.get .bad eH (eb es cZ p)=T.get .bad eH bh
 | 0,_=>by rw [C.bh]
 | p+1,ax=>by
   obtain ⟨i,aR,jH⟩:=C.lo p (by have:=C.B4;omega);have cv:ops[i]? =some ops[i]:=apL aR;obtain ⟨e,aa,ad,aJ⟩:=C.step i ops[i] cv (by omega);rw [jH] at aa ad aJ;have JR:eb es cZ p=e.r:=by simp [eb,aa]
   have aH:=(ko ad).1;rw [aJ,<-Cert.H_ C p (by omega),JR];cases adw:ops[i].dst with
   | none=>rfl
   | some d=>
     rw [adw] at aH;simp only [eI,apq,apE] at aH;simp only [ft];rw [T.hW,apw (wU aH.2)]
def nameAt (es:List eK) (av:ae) (aD:List Nat) (k:Nat):aL:=aw (b' es av (posOf aD k)).next
def Aq (es:List eK) (av:ae) (aD:List Nat) (k:Nat):b1:=(b' es av (posOf aD k+1)).get (nameAt es av aD k)
def Made (es:List eK) (av:ae) (aD:List Nat) (k:Nat):Prop:=(b' es av (posOf aD k+1)).next≠(b' es av (posOf aD k)).next
def jW (ops:Array Oper) (es:List eK) (av:ae) (aD:List Nat) (listed:Array Bool) (s k:Nat):Prop:=
 ∃o,ops[k]? =some o/\(gh o=true/\Made es av aD k)/\¬listed.getD k false=true/\posOf aD k<s
structure Holds (ay F:Fr) (es:List eK) (av:ae) (aD:List Nat) (D:Nat->Prop):Prop where
 w:F.w=ay.w
 bG:∀b,(∀k,D k->nameAt es av aD k≠b)->F.hd b=ay.hd b
 new:∀k,D k->F.hd (nameAt es av aD k)=some (Aq es av aD k)/\ay.hd (nameAt es av aD k)=none
 inj:∀k br,D k->D br->nameAt es av aD k=nameAt es av aD br->k=br
theorem Holds.congr {ay F:Fr} {D Ms:Nat->Prop} (H:Holds ay F es av aD D) (h:∀k,Ms k↔D k):Holds ay F es av aD Ms:=
 ⟨H.w,fun b ah=>H.bG b fun k aB=>ah k ((h k).2 aB),fun k aB=>H.new k ((h k).1 aB),fun k br aB gz=>H.inj k br ((h k).1 aB) ((h br).1 gz)⟩
theorem Holds.none {ay F:Fr} {D:Nat->Prop} (H:Holds ay F es av aD D) (h:∀k,¬D k):F=ay:=by have:F.hd=ay.hd:=funext fun b=>H.bG b fun k aB=>absurd aB (h k);cases F;cases ay;have hw:=H.w;simp only at this hw;rw [this,hw]
theorem Cert.advance (C:Cert P aq ops calls es bh aY cZ av en order aD N M lit) {ay:Fr} {listed:Array Bool} {E:Env} {w:World}:∀(d q:Nat),q+d=N->(∀k o,ops[k]? =some o->gh o=true->q<=posOf aD k->¬listed.getD k false=true)->
 ∀F,Holds ay F es av aD (jW ops es av aD listed q)->a8 F E (b' es av q) w->
 ∃s dQ,s ∈ en/\q<=s/\s<=N/\(∀k o,ops[k]? =some o->dY P o=true->q<=posOf aD k->s<=posOf aD k)/\Holds ay dQ es av aD (jW ops es av aD listed s)/\a8 dQ E (b' es av s) w
 | 0,q,az,_,F,H,S=>by
   have:q=N:=by omega
   subst this;exact ⟨q,F,C.ends,apv _,apv _,fun k o _ _ h=>h,H,S⟩
 | d+1,q,az,uf,F,H,S=>by
   obtain ⟨i,aR,jH⟩:=C.lo q (by have:=C.B4;omega);have cv:ops[i]? =some ops[i]:=apL aR;cases k8:dY P ops[i] with
   | true=>exact ⟨q,F,by rw [<-jH];exact C.mem i _ cv k8,apv _,by omega,fun k o _ _ h=>h,H,S⟩
   | false=>
     obtain ⟨e,aa,ad,aJ⟩:=C.step i ops[i] cv (by omega);rw [jH] at aa ad;have ub:b' es av q=e.h:=by simp [b',aa]
     have only:∀k o,ops[k]? =some o->posOf aD k=q->k=i:=fun k o aB af=>C.wX (apt.1 aB).1 aR (by rw [af,jH]);have fin:∀dQ,Holds ay dQ es av aD (jW ops es av aD listed (q+1))->a8 dQ E (b' es av (q+1)) w->
      ∃s dQ,s ∈ en/\q<=s/\s<=N/\(∀k o,ops[k]? =some o->dY P o=true->q<=posOf aD k->s<=posOf aD k)/\Holds ay dQ es av aD (jW ops es av aD listed s)/\a8 dQ E (b' es av s) w:=by
      intro dQ eg W1;obtain ⟨s,Wm,g1,g2,g3,g4,g5,g6⟩:=Cert.advance C d (q+1) (by omega) (fun k o aa ad aJ=>uf k o aa ad (by omega)) dQ eg W1;refine ⟨s,Wm,g1,by omega,g3,fun k o aB ao af=>g4 k o aB ao ?_,g5,g6⟩;by_cases EU:posOf aD k=q
      . have:=only k o aB EU;subst this;rw [cv] at aB;cases aB;rw [k8] at ao;cases ao
      . omega
     have pass:b' es av (q+1)=e.h->(gh ops[i]=true->¬Made es av aD i)->∃s dQ,s ∈ en/\q<=s/\s<=N/\(∀k o,ops[k]? =some o->dY P o=true->q<=posOf aD k->s<=posOf aD k)/\Holds ay dQ es av aD (jW ops es av aD listed s)/\a8 dQ E (b' es av s) w:=by
      intro yy k';rw [<-ub] at yy;refine fin F (H.congr fun k=>⟨?_,?_⟩) (by rw [yy];exact S)
      . rintro ⟨o,ak,al,aI,bB⟩;refine ⟨o,ak,al,aI,?_⟩;have:posOf aD k≠q:=fun e=>by
         have:=only k o ak e;subst this;rw [cv] at ak;cases ak;exact k' al.1 al.2
        omega
      . rintro ⟨o,ak,al,aI,bB⟩;exact ⟨o,ak,al,aI,by omega⟩
     cases bt:gh ops[i] with
     | true=>
      rcases PM bt ad with ⟨cT,b7,cj⟩ | ⟨b7,_⟩
      ·
       have aZ:=S.hold cT;have aV:nameAt es av aD i=aw (b' es av q).next:=by unfold nameAt;rw [jH]
       have ah:Aq es av aD i=cT:=by unfold Aq;rw [aV,jH,b7,ub,ae.hV,apz rfl]
       rw [ub,<-b7] at aZ;have ad9:Made es av aD i:=by unfold Made;rw [jH,b7,ub];exact Nat.succ_ne_self _
       have q_:¬listed.getD i false=true:=uf i _ cv bt (by omega);have HX:∀k,jW ops es av aD listed (q+1) k->k=i\/jW ops es av aD listed q k:=by
        rintro k ⟨o,ak,al,aI,bB⟩;by_cases EU:posOf aD k=q
        . exact .inl (only k o ak EU)
        . exact .inr ⟨o,ak,al,aI,by omega⟩
       have fresh:∀b g',F.hd b=some g'->b≠nameAt es av aD i:=by intro b g' qZ heq;obtain ⟨_,_,j,p5,wA⟩:=S.n5 b g' qZ;rw [heq,aV] at wA;rw [ub] at p5 wA;have:=hN wA;omega
       have Si:∀b,b≠nameAt es av aD i->(F.hold (aw e.h.next) cT).hd b=F.hd b:=by intro b Rf;rw [aV,ub] at Rf;simp only [Fr.hold,apw Rf]
       have X4:(F.hold (aw e.h.next) cT).hd (nameAt es av aD i)=some cT:=by rw [aV,ub];simp only [Fr.hold,ap3]
       have ne:∀k,jW ops es av aD listed q k->nameAt es av aD k≠nameAt es av aD i:=fun k aB=>fresh _ _ (H.new k aB).1;refine fin (F.hold (aw e.h.next) cT) ⟨H.w,fun b qZ=>?_,fun k aB=>?_,fun k br aB gz he=>?_⟩ aZ
       . have vK:b≠nameAt es av aD i:=fun e=>qZ i ⟨_,cv,⟨bt,ad9⟩,q_,by omega⟩ e.symm;rw [Si b vK];exact H.bG b fun k aB=>qZ k (by obtain ⟨o,ak,al,aI,bB⟩:=aB;exact ⟨o,ak,al,aI,by omega⟩)
       . rcases HX k aB with rfl | aB
         . refine ⟨by rw [X4,ah],?_⟩;cases af:ay.hd (nameAt es av aD k) with
           | none=>rfl
           | some g'=>
             exfalso;have:=H.bG (nameAt es av aD k) fun br gz=>ne br gz;rw [af] at this;exact fresh _ _ this rfl
         . rw [Si _ (ne k aB)];exact H.new k aB
       . rcases HX k aB with rfl | aB<;>rcases HX br gz with rfl | gz
         . rfl
         . exact absurd he.symm (ne br gz)
         . exact absurd he (ne k aB)
         . exact H.inj k br aB gz he
      . refine pass b7 fun _ hm=>hm ?_;rw [jH,b7,ub]
     | false=>
       have c4:eN P ops[i].op=false:=by unfold dY at k8;rw [bt] at k8;simpa using k8
       exact pass (vv c4 ad).1 fun h=>by rw [bt] at h;cases h
structure qz (P:Program) (ay:Fr) (aq:Nat) (ops:Array Oper) (es:List eK) (bh:bC) (av:ae) (en aD:List Nat) (ga:Env) (N:Nat) (D:List Deferred) (listed:Array Bool) (a:Act) (w:World):Prop where
 sT:listed.size=ops.size
 size:a.tmps.size=aq
 defers:a.defers=D
 tM:∀k,listed.getD k false=true->posOf aD k<N
 down:qB ops fun k=>listed.getD k false=true
 main:∃E s F,ga.le E/\s ∈ en/\s<=N/\(∀k o,ops[k]? =some o->dY P o=true->(listed.getD k false=true↔posOf aD k<s))/\
  (∀k o,ops[k]? =some o->gh o=true->listed.getD k false=true->posOf aD k<s)/\Holds ay F es av aD (jW ops es av aD listed s)/\a8 F E (b' es av s) w/\
  ∀t,t<=top->(∃k o e,listed.getD k false=true/\ops[k]? =some o/\o.dst=some t/\es[posOf aD k]? =some e/\Rel E e.v (a.tmps.getD t undef))\/
   ((∀k o,listed.getD k false=true->ops[k]? =some o->o.dst≠some t)/\Rel E (T.get .bad (aw t) bh) (a.tmps.getD t undef))
theorem tT {l:Array Bool} {i:Nat}:l.getD i false=true↔l[i]? =some true:=by
 rw [apQ];cases l[i]? with
 | none=>simp
 | some b=>cases b<;>simp
theorem fy {l:Array Bool} {i k:Nat} (ax:i<l.size):(l.setIfInBounds i true).getD k false=true↔(k=i\/l.getD k false=true):=by
 rw [tT,tT,apI];by_cases h:i=k
 . subst h;simp [ax]
 . have:¬k=i:=fun e=>h e.symm;simp [h,this]
theorem DX {r:bC} {t:Nat} (aE:t<=top):∀{l:List Oper},T.get .bad (aw t) (oD r l)=.bad\/(T.get .bad (aw t) (oD r l)=T.get .bad (aw t) r/\∀o ∈ l,o.dst≠some t)
 | []=>.inr ⟨rfl,fun o aU=>by simp at aU⟩
 | o::os=>by
   simp only [oD];cases aH:o.dst with
   | none=>
     simp only;rcases DX (r:=r) aE (l:=os) with h | ⟨aa,ad⟩
     . exact .inl h
     . exact .inr ⟨aa,fun b2 gY=>by
        rcases apJ.1 gY with rfl | gY
        . rw [aH];simp
        . exact ad b2 gY⟩
   | some d=>
     simp only;cases ah:Nat.ble d top with
     | true=>
       simp only [apu];rw [T.hW];by_cases vO:d=t
       . subst vO;rw [apz rfl];exact .inl rfl
       . rw [apw (fun e=>vO (hN e))];rcases DX (r:=r) aE (l:=os) with h | ⟨aa,ad⟩
         . exact .inl h
         . exact .inr ⟨aa,fun b2 gY=>by
            rcases apJ.1 gY with rfl | gY
            . rw [aH];simpa using vO
            . exact ad b2 gY⟩
     | false=>
       simp only [apA];have vO:d≠t:=fun e=>by subst e;rw [<-apE] at aE;rw [aE] at ah;cases ah
       rcases DX (r:=r) aE (l:=os) with h | ⟨aa,ad⟩
       . exact .inl h
       . exact .inr ⟨aa,fun b2 gY=>by
          rcases apJ.1 gY with rfl | gY
          . rw [aH];simpa using vO
          . exact ad b2 gY⟩
theorem DW {r:bC}:∀{l:List Oper},T.get .bad eH (oD r l)=T.get .bad eH r
 | []=>rfl
 | o::os=>by
   simp only [oD];cases aH:o.dst with
   | none=>exact DW
   | some d=>
     simp only;cases ah:Nat.ble d top with
     | true=>
       simp only [apu];rw [T.hW,apw (wU (ap5 ah))];exact DW
     | false=>exact DW
theorem PT {rd:Option Nat} {D:List Deferred} {ay:Fr} (bE:ec P) (cb:∀i,gq P (calls i)) (dC:∀i,gJ P (calls i)) (C:Cert P aq ops calls es bh aY cZ av en order aD N M lit) {ga:Env} {listed:Array Bool} {a:Act} {w:World} (I:qz P ay aq ops es bh av en aD ga N D listed a w)
 {i:Nat} (ax:i ∈ Region.ready .any ops listed) (adS:posOf aD i<M) (vY:lit=true->∀o k ok,ops[i]? =some o->la o=true->ops[k]? =some ok->la ok=true->posOf aD k<posOf aD i->listed.getD k false=true) {Q:Exit->Act->World->Prop} {K:Act->World->Prop} (dE:∀bl w',qz P ay aq ops es bh av en aD ga N D (listed.setIfInBounds i true) bl w'->K bl w')
 (cy:∀ar bl w' x v ab,ga.le ar->N<ops.size->ops.size<=M->(∃i0 gE,ops[i0]? =some gE/\posOf aD i0=N/\(cE P aq ops gE).run (calls i0) cZ av=.cK v ab)->RegRel0 ar aq (oD bh ops.toList) bl->bl.defers=D->Rel ar v x->a8 ay ar ab w'->Q (.panic (qd x)) bl w'):wpOpIn (b4 rd) 0 P ops Q i K a w:=by
 rw [mem_ready] at ax;obtain ⟨E,s,F,iy,aZ,EW,l8,cW,j4,re,we⟩:=I.main;obtain ⟨uf,o,cv,vP⟩:=ax;have dI:i<ops.size:=(apt.1 cv).1;have ug:¬listed.getD i false=true:=by rw [tT];intro h;rw [apQ,h] at uf;simp at uf
 have RL:=BX I.down ops.toList [] (fun j=>by simp) (fun k m j aB=>by simp at aB);have ye:qB ops fun k=>listed.getD k false=true\/k=i:=by
  intro k ok e aB bz he ah;rcases aB with aB | rfl
  . exact .inl (I.down k ok e aB bz he ah)
  . rw [cv] at bz;cases bz;exact .inl (vP e (aqW.1 he) (by rw [xM];exact ah))
 have ad7:=BX ye ops.toList [] (fun j=>by simp) (fun k m j aB=>by simp at aB);obtain ⟨cN,l9,ig,ET⟩:=C.mO i o cv;have ET:=ET adS;have IL:=C.Ty;have A0:∀k,k≠i->fC cN k=true->listed.getD k false=true:=by
  intro k aB ah;rcases ad7 i cN k l9 ah (.inr rfl) with h | h
  . exact h
  . exact absurd h aB
 have db:=(C.h4 i dI).1;have aeo:posOf aD i<=N:=by
  rcases aqI N (posOf aD i) with adO | hle
  . exfalso;have Eo:ops.size<=M:=by
     rcases aqI M ops.size with h | h
     . have:=(C.tail h).1;omega
     . exact h
    obtain ⟨i0,gE,m0,bJ,z2,z3,z4,z5,_⟩:=C.stop (by omega) Eo;have ah:=z5 i o cN cv adO l9;have aa:=A0 i0 (fun e=>by subst e;omega) ah;have:=I.tM i0 aa;omega
  . exact hle
 have uniq:∀(k br:Nat) (ok h2:Oper) (t:Nat),ops[k]? =some ok->ops[br]? =some h2->posOf aD k<M->posOf aD br<M->ok.dst=some t->h2.dst=some t->k=br:=by
  intro k br ok h2 t aa ad b8 cg aJ bu;obtain ⟨mk,_,_,af⟩:=C.mO k ok aa;obtain ⟨mk',_,hZ,_⟩:=af b8 br h2 ad cg;unfold o4 at hZ;rw [hi] at hZ;by_cases j5:k=br
  . exact j5
  . rw [apw j5,bu,aJ] at hZ;simp at hZ
 have UG:iD (bY ops o)=true->∀t ∈ bY ops o,Rel E (T.get .bad (aw t) (eb es cZ (posOf aD i))) (a.tmps.getD t undef):=by
  intro aeL t aE;have yB:t<=top:=by have:=apU.1 aeL t aE;exact ap5 this
  have TZ:∀(k:Nat) (ok:Oper),k≠i->posOf aD k<M->ops[k]? =some ok->ok.dst=some t->∃mk,(eE [] ops.toList)[k]? =some mk/\(posOf aD k<posOf aD i->fC cN k=true)/\(¬posOf aD k<posOf aD i->fC mk i=true):=by
   intro k ok aB Jk bz aH;obtain ⟨mk,ak,al,_⟩:=ET k ok bz Jk;refine ⟨mk,ak,?_⟩;unfold o4 at al;rw [hi,apw (fun e=>aB e.symm),aH] at al;simp only [apq] at al;have aI:=al.1;rw [show (bY ops o).contains t=true from by simpa using aE] at aI;simp only [apu] at aI;refine ⟨fun aR=>?_,fun ie=>?_⟩
   . rw [show Nat.blt (posOf aD k) (posOf aD i)=true from by rw [apR];exact aR] at aI;exact aI
   . rw [show Nat.blt (posOf aD k) (posOf aD i)=false from by rw [<-ap2,apR];exact ie] at aI;exact aI
  rcases C.Lv (posOf aD i) aeo t yB with ⟨k,ok,DQ,ak,al,aI,bB,cG⟩ | ⟨ak,al⟩
  . obtain ⟨mk,_,cX,_⟩:=TZ k ok (fun e=>by subst e;omega) (by omega) al aI;have Be:=A0 k (fun e=>by subst e;omega) (cX ak);rcases we t yB with ⟨br,h2,Ih,cc,cx,eF,kd,o3⟩ | ⟨cc,_⟩
    . have:=uniq k br ok h2 t al cx (by omega) (by have:=I.tM br cc;omega) aI eF;subst this;rw [bB] at kd;cases kd;rw [cG];exact o3
    . exact absurd aI (cc k ok Be al)
  . rcases we t yB with ⟨br,h2,Ih,cc,cx,eF,kd,o3⟩ | ⟨_,cx⟩
    . have gd:br≠i:=fun e=>ug (e ▸ cc);obtain ⟨mk,m1,_,ck⟩:=TZ br h2 gd (by have:=I.tM br cc;omega) cx eF;by_cases aR:posOf aD br<posOf aD i
      . exact absurd eF (ak br h2 aR cx)
      . exact absurd (RL br mk i m1 (ck aR) cc) ug
    . rw [al];exact cx
 have level:eN P o.op=true->s<=posOf aD i->s=posOf aD i/\gh o=false:=by
  intro lE hle;rcases C.Vm s aZ with (h | ⟨h,En⟩) | ⟨k,ok,b7,cj,ei⟩
  . omega
  . omega
  . have RR:¬listed.getD k false=true:=fun h=>by have:=(l8 k ok b7 cj).1 h;omega
    have kA:=(apt.1 b7).1;by_cases gd:k=i
    . subst gd;rw [cv] at b7;cases b7;refine ⟨ei,?_⟩;unfold dY at cj;simpa [lE] using cj
    . have aR:posOf aD k<posOf aD i:=by
       have:posOf aD k≠posOf aD i:=fun e=>gd (C.wX kA dI e);omega
      obtain ⟨mk,_,_,aI⟩:=ET k ok b7 (by omega);rcases aI lE cj aR with h | ⟨g1,g2,g3⟩
      . exact absurd (A0 k gd h) RR
      . exact absurd (vY g1 o k ok cv g2 b7 g3 aR) RR
 rcases aqI (posOf aD i) N with Jt | aod
 case inr=>
  have j8:posOf aD i=N:=by omega
  have Eo:ops.size<=M:=by
   rcases aqI M ops.size with h | h
   . have:=(C.tail h).1;omega
   . exact h
  obtain ⟨i0,gE,m0,bJ,z2,z3,z4,z5,kk,v,ab,Mj⟩:=C.stop (by omega) Eo;have adU:i0=i:=C.wX (apt.1 bJ).1 dI (by rw [z2,j8]);subst adU;rw [cv] at bJ;cases bJ;rw [l9] at z4;cases z4;obtain ⟨lE,aea⟩:=Tk z3;have yi:dY P o=true:=by unfold dY;rw [lE,aea];rfl
  have wh:s<=posOf aD i0:=by
   rcases aqI (posOf aD i0) s with h | h
   . exact absurd ((l8 i0 o cv yi).2 h) ug
   . exact h
  have pX:=(level lE wh).1;have hD:F=ay:=j4.none fun k aB=>by
   obtain ⟨ok,ak,al,aI,bB⟩:=aB;have gd:k≠i0:=fun e=>by subst e;omega
   exact aI (A0 k gd (kk k ok ak al.1 (by omega)))
  subst hD;have dp:es[N]? =none:=apT (by rw [C.len];exact apv _);have kF:=UG (PK Mj).2;rw [j8] at kF;simp only [eb,dp] at kF;rw [pX,j8] at re;simp only [b',dp] at re;refine aaI bE (cb i0) (dC i0) cv Mj z3 I.size kF re fun ar x w' ak al aI=>cy ar a w' x v ab (iy.trans ak) (by omega) Eo ⟨i0,o,cv,j8,Mj⟩ ⟨I.size,fun t aE=>?_⟩ I.defers al aI;rcases DX (r:=bh) aE (l:=ops.toList) with h | ⟨aa,ad⟩
  . rw [h];simp [Rel]
  . rw [aa];rcases we t aE with ⟨k,ok,DQ,cc,cx,eF,kd,o3⟩ | ⟨cc,cx⟩
    . exact absurd eF (ad ok (by rw [<-aq1] at cx;exact apY cx))
    . exact Rel.mono ak _ _ cx
 obtain ⟨e,q2,cR,aos⟩:=C.step i o cv Jt;have gX:=ko cR;have eD:eb es cZ (posOf aD i)=e.r:=by simp [eb,q2]
 have jG:b' es av (posOf aD i)=e.h:=by simp [b',q2]
 have reads:=UG gX.2;rw [eD] at reads;have fQ:i<listed.size:=by rw [I.sT];exact dI
 have after:∀(fT:Nat) (dQ:Fr) (ar:Env) (x:Value) (w':World),fT ∈ en->fT<=N->(∀k ok,ops[k]? =some ok->dY P ok=true->((k=i\/listed.getD k false=true)↔posOf aD k<fT))->
  (∀k ok,ops[k]? =some ok->gh ok=true->(k=i\/listed.getD k false=true)->posOf aD k<fT)->
  Holds ay dQ es av aD (jW ops es av aD (listed.setIfInBounds i true) fT)->E.le ar->Rel ar e.v x->a8 dQ ar (b' es av fT) w'->
  qz P ay aq ops es bh av en aD ga N D (listed.setIfInBounds i true) (a.put o.dst x) w':=by
  intro fT dQ ar x w' jn aeM fg ada adP hle aj aeJ
  refine ⟨by simp [I.sT],by cases h:o.dst<;>simp [Act.put,I.size],by cases h:o.dst<;>simp [Act.put,I.defers],fun k aB=>by
   rcases (fy fQ).1 aB with rfl | aB
   . exact Jt
   . exact I.tM k aB,?_,ar,fT,dQ,iy.trans hle,jn,aeM,fun k ok aa ad=>by rw [fy fQ];exact fg k ok aa ad,
   fun k ok aa ad aJ=>ada k ok aa ad ((fy fQ).1 aJ),adP,aeJ,fun t aE=>?_⟩
  . intro k ok cC aB bz ee ah;rw [fy fQ] at aB ⊢;rcases ye k ok cC aB.symm bz ee ah with h | h
    . exact .inr h
    . exact .inl h
  . by_cases aH:o.dst=some t
    . refine .inl ⟨i,o,e,by rw [fy fQ];exact .inl rfl,cv,aH,q2,?_⟩;have aR:t<a.tmps.size:=by
       have:=gX.1;rw [aH] at this;simp only [eI,apq,apR] at this;rw [I.size];exact this.1
      rw [aH];simp only [Act.put];rw [apQ,apI,apz rfl,apz aR];exact aj
    . have dF:(a.put o.dst x).tmps.getD t undef=a.tmps.getD t undef:=by
       cases aeg:o.dst with
       | none=>rfl
       | some d=>
         simp only [Act.put];rw [apQ,apQ,apI,apw (fun e=>aH (by rw [aeg,e]))]
      rw [dF];rcases we t aE with ⟨k,ok,DQ,cc,cx,eF,kd,o3⟩ | ⟨cc,cx⟩
      . exact .inl ⟨k,ok,DQ,by rw [fy fQ];exact .inr cc,cx,eF,kd,Rel.mono hle _ _ o3⟩
      . refine .inr ⟨fun k ok aB bz=>?_,Rel.mono hle _ _ cx⟩;rw [fy fQ] at aB;rcases aB with rfl | aB
        . rw [cv] at bz;cases bz;exact aH
        . exact cc k ok aB bz
 have I6:¬(gh o=true/\Made es av aD i)->∀fT k,jW ops es av aD (listed.setIfInBounds i true) fT k↔jW ops es av aD listed fT k:=by
  intro bt fT k;constructor
  . rintro ⟨ok,ak,al,aI,bB⟩;exact ⟨ok,ak,al,fun h=>aI ((fy fQ).2 (.inr h)),bB⟩
  . rintro ⟨ok,ak,al,aI,bB⟩;refine ⟨ok,ak,al,fun h=>?_,bB⟩;rcases (fy fQ).1 h with rfl | h
    . rw [cv] at ak;cases ak;exact bt al
    . exact aI h
 cases lE:eN P o.op with
 | true=>
   cases bt:gh o with
   | true=>
     have aR:posOf aD i<s:=by
      rcases aqI (posOf aD i) s with h | h
      . exact h
      . have:=(level lE h).2;rw [bt] at this;cases this
     by_cases hm:Made es av aD i
     case neg=>
      have JU:(cE P aq ops o).run (calls i) e.r (b' es av s)=.val e.v (b' es av s):=by
       rcases PM bt cR with ⟨cT,b7,_⟩ | ⟨_,b7⟩
       . exact absurd (show Made es av aD i from by unfold Made;rw [b7,jG];exact Nat.succ_ne_self _) hm
       . exact b7 _
      refine qO bE (cb i) (dC i) cv JU I.size reads re fun ar x w' ak al aI=>dE _ _ (after s F ar x w' aZ EW (fun k ok bz jm=>?_) (fun k ok bz pP aB=>?_) (j4.congr fun k=>I6 (fun h=>hm h.2) s k) ak al aI)
      . constructor
        . rintro (rfl | h)
          . rw [cv] at bz;cases bz;unfold dY at jm;rw [bt] at jm;simp at jm
          . exact (l8 k ok bz jm).1 h
        . intro h;exact .inr ((l8 k ok bz jm).2 h)
      . rcases aB with rfl | aB
        . exact aR
        . exact cW k ok bz pP aB
     have l6:jW ops es av aD listed s i:=⟨o,cv,⟨bt,hm⟩,ug,aR⟩;have Jv:(b' es av (posOf aD i+1)).next≠e.h.next:=by rw [<-jG];exact hm
     have k':nameAt es av aD i=aw e.h.next:=by unfold nameAt;rw [jG]
     have mc:=(j4.new i l6).1;have yD:=(j4.new i l6).2;have oL:Aq es av aD i=(b' es av (posOf aD i+1)).get (aw e.h.next):=by unfold Aq;rw [k']
     rw [k',oL] at mc;refine aaG cv bt cR I.size reads re Jv mc fun ar x w' ak al aI=>dE _ _ (after s (F.free (aw e.h.next)) ar x w' aZ EW (fun k ok bz jm=>?_) (fun k ok bz pP aB=>?_) ?_ ak al aI)
     . constructor
       . rintro (rfl | h)
         . rw [cv] at bz;cases bz;unfold dY at jm;rw [bt] at jm;simp at jm
         . exact (l8 k ok bz jm).1 h
       . intro h;exact .inr ((l8 k ok bz jm).2 h)
     . rcases aB with rfl | aB
       . exact aR
       . exact cW k ok bz pP aB
     . have sub:∀k,jW ops es av aD (listed.setIfInBounds i true) s k->jW ops es av aD listed s k/\k≠i:=by
        rintro k ⟨ok,ak,al,aI,bB⟩;refine ⟨⟨ok,ak,al,fun h=>aI ((fy fQ).2 (.inr h)),bB⟩,fun e=>aI ((fy fQ).2 (.inl e))⟩
       refine ⟨j4.w,fun b ah=>?_,fun k aB=>?_,fun k br aB gz=>j4.inj k br (sub k aB).1 (sub br gz).1⟩
       . by_cases vK:b=aw e.h.next
         . subst vK;simp only [Fr.free,ap3];rw [<-k',yD]
         . simp only [Fr.free,apw vK];refine j4.bG b fun k aB=>?_;by_cases gd:k=i
           . subst gd;rw [k'];exact fun e=>vK e.symm
           . obtain ⟨ok,ak,al,aI,bB⟩:=aB;refine ah k ⟨ok,ak,al,fun h=>?_,bB⟩;rcases (fy fQ).1 h with h | h
             . exact gd h
             . exact aI h
       . obtain ⟨RB,gd⟩:=sub k aB;have c4:nameAt es av aD k≠aw e.h.next:=fun e=>gd (j4.inj k i RB l6 (by rw [e,k']))
         simp only [Fr.free,apw c4];exact j4.new k RB
   | false=>
     have yi:dY P o=true:=by unfold dY;rw [lE,bt];rfl
     have wh:s<=posOf aD i:=by
      rcases aqI (posOf aD i) s with h | h
      . exact absurd ((l8 i o cv yi).2 h) ug
      . exact h
     have pX:=(level lE wh).1;rw [<-jG,<-pX] at cR;refine qO bE (cb i) (dC i) cv cR I.size reads re fun ar x w' ak al aI=>?_;rw [pX] at aI;have ad3:∀k ok,ops[k]? =some ok->gh ok=true->posOf aD i+1<=posOf aD k->¬(listed.setIfInBounds i true).getD k false=true:=by
      intro k ok bz pP af h;rcases (fy fQ).1 h with rfl | h
      . omega
      . have:=cW k ok bz pP h;omega
     have adR:Holds ay F es av aD (jW ops es av aD (listed.setIfInBounds i true) (posOf aD i+1)):=by
      refine j4.congr fun k=>?_;rw [I6 (fun h=>by rw [bt] at h;cases h.1)];constructor
      . rintro ⟨ok,bJ,z2,z3,z4⟩;refine ⟨ok,bJ,z2,z3,?_⟩;have kA:=(apt.1 bJ).1;have:posOf aD k≠posOf aD i:=fun e=>by
         have:=C.wX kA dI e;subst this;rw [cv] at bJ;cases bJ;rw [bt] at z2;cases z2.1
        omega
      . rintro ⟨ok,bJ,z2,z3,z4⟩;exact ⟨ok,bJ,z2,z3,by omega⟩
     obtain ⟨fT,dQ,g1,g2,g3,g4,g5,g6⟩:=C.advance (N - (posOf aD i+1)) (posOf aD i+1) (by omega) ad3 F adR aI;refine dE _ _ (after fT dQ ar x w' g1 g3 (fun k ok bz jm=>?_) (fun k ok bz pP aB=>?_) g5 ak al g6)
     . have kA:=(apt.1 bz).1;constructor
       . rintro (rfl | h)
         . omega
         . have:=(l8 k ok bz jm).1 h;omega
       . intro h;by_cases gd:k=i
         . exact .inl gd
         . refine .inr ((l8 k ok bz jm).2 ?_);rcases aqI (posOf aD k) s with a' | a'
           . exact a'
           . have c4:posOf aD k≠posOf aD i:=fun e=>gd (C.wX kA dI e);have:=g4 k ok bz jm (by omega);omega
     . rcases aB with rfl | aB
       . omega
       . have:=cW k ok bz pP aB;omega
 | false=>
   have bt:gh o=false:=by
    cases h:gh o with
    | false=>rfl
    | true=>rw [afx h] at lE;cases lE
   obtain ⟨c,ao,JU⟩:∃c,(gq P c/\gJ P c)/\(cE P aq ops o).run c e.r (b' es av s)=.val e.v (b' es av s):=by
    cases ep:looks o.op with
    | false=>exact ⟨_,⟨cb i,dC i⟩,(vv lE cR).2 ep _⟩
    | true=>
      obtain ⟨cC,ak,al⟩:=C.ask i o cv ep lE Jt;rw [q2] at ak;cases ak
      obtain ⟨c,ab,ao,aI⟩:=al s aZ (Mk (by rw [KI];simp) fun k mk ok aa ad=>by
       simp only [apW];have bz:ops[k]? =some ok:=by simpa using ad
       cases vZ:dY P ok with
       | false=>rfl
       | true=>
         simp only [apu];cases q9:Nat.blt (posOf aD k) s with
         | true=>
           rw [apR] at q9;simp only [apu,aqh];cases ah:fC mk i with
           | false=>rfl
           | true=>exact absurd (RL k mk i aa ah ((l8 k ok bz vZ).2 q9)) ug
         | false=>
           have ad1:¬posOf aD k<s:=by rw [<-apR,q9];simp
           simp only [apA,aqh,l9,apX];cases ah:fC cN k with
           | false=>rfl
           | true=>
             by_cases gd:k=i
             . subst gd;rw [cv] at bz;cases bz;unfold dY at vZ;rw [lE] at vZ;cases vZ
             . exact absurd ((l8 k ok bz vZ).1 (A0 k gd ah)) ad1)
      rw [(vv lE aI).1] at aI;exact ⟨c,ao,aI⟩
   refine qO bE ao.1 ao.2 cv JU I.size reads re fun ar x w' ak al aI=>dE _ _ (after s F ar x w' aZ EW (fun k ok bz jm=>?_) (fun k ok bz pP aB=>?_) (j4.congr fun k=>I6 (fun h=>by rw [bt] at h;cases h.1) s k) ak al aI)
   . constructor
     . rintro (rfl | h)
       . rw [cv] at bz;cases bz;unfold dY at jm;rw [lE] at jm;cases jm
       . exact (l8 k ok bz jm).1 h
     . intro h;exact .inr ((l8 k ok bz jm).2 h)
   . rcases aB with rfl | aB
     . rw [cv] at bz;cases bz;rw [bt] at pP;cases pP
     . exact cW k ok bz pP aB
theorem PJ {D:List Deferred} {ay:Fr} (C:Cert P aq ops calls es bh aY cZ av en order aD N M lit) {ga:Env} (IL:N<=M) {listed:Array Bool} {a:Act} {w:World} (I:qz P ay aq ops es bh av en aD ga N D listed a w)
 (cW:∀k,k<ops.size->posOf aD k<N->listed.getD k false=true):∃ar,ga.le ar/\RegRel0 ar aq cZ a/\a.defers=D/\a8 ay ar av w:=by
 obtain ⟨E,s,F,iy,aZ,EW,l8,_,j4,re,we⟩:=I.main;have dp:es[N]? =none:=apT (by rw [C.len];exact apv _);have yn:b' es av N=av:=by simp [b',dp]
 have R2:eb es cZ N=cZ:=by simp [eb,dp]
 have pX:s=N:=by
  rcases C.Vm s aZ with (h | ⟨h,_⟩) | ⟨k,ok,b7,cj,ei⟩
  . have:=C.B4;omega
  . exact h
  . rcases aqI s N with aR | ie
    . have:=(l8 k ok b7 cj).1 (cW k (apt.1 b7).1 (by omega));omega
    . omega
 subst pX;have hD:F=ay:=j4.none fun k aB=>by obtain ⟨ok,ak,al,aI,bB⟩:=aB;exact aI (cW k (apt.1 ak).1 bB)
 subst hD;rw [yn] at re;have En:∀k,posOf aD k<s->posOf aD k<M:=fun k h=>by omega
 refine ⟨E,iy,⟨I.size,fun t aE=>?_⟩,I.defers,re⟩;have aeW:∀(k br:Nat) (ok h2:Oper),ops[k]? =some ok->ops[br]? =some h2->posOf aD k<s->posOf aD br<s->ok.dst=some t->h2.dst=some t->k=br:=by
  intro k br ok h2 aa ad b8 cg aJ bu;obtain ⟨mk,_,_,af⟩:=C.mO k ok aa;obtain ⟨mk',_,hZ,_⟩:=af (En k b8) br h2 ad (En br cg);unfold o4 at hZ;rw [hi] at hZ;by_cases j5:k=br
  . exact j5
  . rw [apw j5,bu,aJ] at hZ;simp at hZ
 rcases C.Lv s (apv _) t aE with ⟨k,ok,DQ,ak,al,aI,bB,cG⟩ | ⟨ak,al⟩
 . rw [R2] at cG;rcases we t aE with ⟨br,h2,Ih,cc,cx,eF,kd,o3⟩ | ⟨cc,_⟩
   . have:=aeW k br ok h2 al cx ak (I.tM br cc) aI eF;subst this;rw [bB] at kd;cases kd;rw [cG];exact o3
   . exact absurd aI (cc k ok (cW k (apt.1 al).1 ak) al)
 . rw [R2] at al;rcases we t aE with ⟨br,h2,Ih,cc,cx,eF,kd,o3⟩ | ⟨_,cx⟩
   . exact absurd eF (ak br h2 (I.tM br cc) cx)
   . rw [al];exact cx
theorem PS {rd:Option Nat} {D:List Deferred} {ay:Fr} (bE:ec P) (cb:∀i,gq P (calls i)) (dC:∀i,gJ P (calls i)) (C:Cert P aq ops calls es bh aY cZ av en order aD N M false) {ga:Env} {Q:Exit->Act->World->Prop}
 (cy:N=ops.size->∀ar bl w',ga.le ar->RegRel0 ar aq cZ bl->bl.defers=D->a8 ay ar av w'->Q .normal bl w')
 (gx:∀ar bl w' x v ab,ga.le ar->N<ops.size->ops.size<=M->(∃i0 gE,ops[i0]? =some gE/\posOf aD i0=N/\(cE P aq ops gE).run (calls i0) cZ av=.cK v ab)->RegRel0 ar aq (oD bh ops.toList) bl->bl.defers=D->Rel ar v x->a8 ay ar ab w'->Q (.panic (qd x)) bl w')
 (dN:M<ops.size->∀(fuel:Nat) (listed:Array Bool) ar bl w',(List.range ops.size).countP (fun i=>!listed.getD i false)<=fuel->listed.size=ops.size->qB ops (fun k=>listed.getD k false=true)->(∀k,k<ops.size->(listed.getD k false=true↔posOf aD k<N))->
   ga.le ar->RegRel0 ar aq cZ bl->bl.defers=D->a8 ay ar av w'->wpAnyIn (b4 rd) 0 P .any ops Q fuel listed bl w'):∀(fuel:Nat) (listed:Array Bool) (a:Act) (w:World),(List.range ops.size).countP (fun i=>!listed.getD i false)<=fuel->
 qz P ay aq ops es bh av en aD ga N D listed a w->wpAnyIn (b4 rd) 0 P .any ops Q fuel listed a w:=by
 have done:∀(listed:Array Bool) (a:Act) (w:World),qz P ay aq ops es bh av en aD ga N D listed a w->Region.ready .any ops listed=[]->∀i,i<ops.size->listed.getD i false=true:=by
  intro listed a w I aC i
  induction i using Nat.strongRecOn with
  | _ i bb=>
    intro ax;cases fQ:listed.getD i false with
    | true=>rfl
    | false=>
      exfalso;have cv:ops[i]? =some ops[i]:=apL ax;obtain ⟨cN,_,ig,_⟩:=C.mO i _ cv;have:i ∈ Region.ready .any ops listed:=by
       rw [mem_ready];refine ⟨?_,ops[i],cv,fun e he ah=>?_⟩
       . have cq:i<listed.size:=by rw [I.sT];exact ax
         rw [apQ,apL cq] at fQ ⊢;exact fQ
       . have aa:=apU.1 ig e (aqW.2 he);rw [xM] at ah;rw [ah] at aa;simp only [Bool.not_true,arF,apR] at aa;exact bb e.on aa (by omega)
      rw [aC] at this;simp at this
 have IL:=C.Ty;have full:∀(listed:Array Bool) (a:Act) (w:World),qz P ay aq ops es bh av en aD ga N D listed a w->(∀k,k<ops.size->posOf aD k<N->listed.getD k false=true)->(N=ops.size\/(M<ops.size/\M=N))->
  ∃ar,ga.le ar/\RegRel0 ar aq cZ a/\a.defers=D/\a8 ay ar av w:=fun _ _ _ I cW _=>PJ C IL I cW
 have finish:∀(listed:Array Bool) (a:Act) (w:World),qz P ay aq ops es bh av en aD ga N D listed a w->Region.ready .any ops listed=[]->Q .normal a w:=by
  intro listed a w I aC;have cW:=done listed a w I aC;have IM:N=ops.size:=by
   rcases aqI N ops.size with aR | ie
   . exfalso;obtain ⟨i,vX,nO⟩:=C.lo N aR;have:=I.tM i (cW i vX);omega
   . exact Nat.le_antisymm C.B4 ie
  obtain ⟨ar,g1,g2,g3,g4⟩:=full listed a w I (fun k aB _=>cW k aB) (.inl IM);exact cy IM ar a w g1 g2 g3 g4
 intro fuel
 induction fuel with
 | zero=>
   intro listed a w ao I;have cW:∀i,i<ops.size->listed.getD i false=true:=by
    intro i ax;have aY:(List.range ops.size).countP (fun i=>!listed.getD i false)=0:=by omega
    rw [List.countP_eq_zero] at aY;simpa using aY i (aqQ.2 ax)
   have aC:Region.ready .any ops listed=[]:=by
    cases az:Region.ready .any ops listed with
    | nil=>rfl
    | cons j afF=>
      exfalso;have bp:j ∈ Region.ready .any ops listed:=by rw [az];simp
      rw [mem_ready] at bp;obtain ⟨aa,o,ad,_⟩:=bp;have:=cW j (apt.1 ad).1;rw [tT] at this;rw [apQ,this] at aa;simp at aa
   exact ⟨aC,finish listed a w I aC⟩
 | succ fuel bb=>
   intro listed a w ao I;by_cases rh:M<ops.size/\∀k,k<ops.size->posOf aD k<N->listed.getD k false=true
   . obtain ⟨vJ,cW⟩:=rh;obtain ⟨ar,g1,g2,g3,g4⟩:=full listed a w I cW (.inr ⟨vJ,(C.tail vJ).1⟩);exact dN vJ (fuel+1) listed ar a w ao I.sT I.down (fun k aB=>⟨I.tM k,cW k aB⟩) g1 g2 g3 g4
   have JP:∀i,i ∈ Region.ready .any ops listed->posOf aD i<M:=by
    intro i ax;have nO:=ax;rw [mem_ready] at nO;obtain ⟨aa,o,ad,vP⟩:=nO;have dI:i<ops.size:=(apt.1 ad).1;rcases aqI M ops.size with vJ | vJ
    . obtain ⟨En,yz⟩:=C.tail vJ;rcases aqI (posOf aD i) N with aR | ie
      . omega
      . exfalso;refine rh ⟨vJ,fun k aB Jl=>?_⟩;obtain ⟨cN,l9,_⟩:=C.mO i o ad;have ah:=yz i o cN ad ie l9 k aB Jl;have ye:qB ops fun k=>listed.getD k false=true\/k=i:=by
         intro k ok e aB bz he ah;rcases aB with aB | rfl
         . exact .inl (I.down k ok e aB bz he ah)
         . rw [ad] at bz;cases bz;exact .inl (vP e (aqW.1 he) (by rw [xM];exact ah))
        rcases BX ye ops.toList [] (fun j=>by simp) (fun k m j aB=>by simp at aB) i cN k l9 ah (.inr rfl) with h | h
        . exact h
        . subst h;omega
    . have:=(C.h4 i dI).1;omega
   refine ⟨fun aC=>finish listed a w I aC,fun i ax=>?_⟩;refine PT bE cb dC C I ax (JP i ax) (fun h=>by cases h) (fun bl w' GY=>bb _ bl w' ?_ GY) gx;have nO:=ax;rw [mem_ready] at nO;obtain ⟨aa,o,ad,_⟩:=nO;have dI:i<ops.size:=(apt.1 ad).1;have fQ:i<listed.size:=by rw [I.sT];exact dI
   have ug:listed.getD i false=false:=by rw [apQ,apL fQ] at aa ⊢;exact aa
   have:=DG (fun k=>!listed.getD k false) (fun k=>!(listed.setIfInBounds i true).getD k false) (List.range ops.size)
    (fun k _ aB=>by
      simp only [aqh] at aB ⊢;cases az:listed.getD k false with
      | false=>rfl
      | true=>
        have:=(fy (k:=k) fQ).2 (.inr az);rw [aB] at this;cases this)
    ⟨i,aqQ.2 dI,by simp [ug],by have:=(fy (k:=i) fQ).2 (.inl rfl);simp [this]⟩
   omega
theorem ae.set_comm (h:ae) {b bL:aL} (c4:b≠bL) (k br:b1):(h.set b k).set bL br=(h.set bL br).set b k:=by unfold ae.set;simp only;rw [T.put_comm _ _ _ _ _ _ (fun e=>c4 e.symm)]
theorem LS {o:Oper} {x:Operand} (h:te o=some x):∃t y,o.op=.store t x y/\o.dst=none/\o.guard=none:=by
 unfold te at h
 split at h
 case h_2=>cases h
 rename_i t V0 y aU
 split at h
 case h_2=>cases h
 rename_i aH
 split at h
 case h_2=>cases h
 rename_i aG;cases h;exact ⟨t,y,aU,aH,aG⟩
theorem ah3 {h ab:ae} {b:aL} {off:Nat} {ag:List V} (he:lay h b off ag=some ab):∃k,ab=h.set b k/\∀H:ae,H.get b=h.get b->lay H b off ag=some (H.set b k):=by
 unfold lay at he ⊢;cases aG:h.get b<;>rw [aG] at he<;>simp only [b1.on] at he<;>try (cases he;done)
 obtain ⟨ao,aa⟩:=ev he;cases aa;refine ⟨_,rfl,fun H l6=>?_⟩;rw [l6];simp only [b1.on,ao,apu]
theorem PO {all:Array Oper} {o:Oper} {x:Operand} {call:dO} {r:bC} {h ab:ae} {v:V} (aj:te o=some x) (he:(cE P aq all o).run call r h=.val v ab):
 ∃b off k,(bS x).run (dk r (bY all o))=.ptr b off/\ab=h.set b k/\∀H:ae,H.get b=h.get b->(cE P aq all o).run call r H=.val v (H.set b k):=by
 obtain ⟨t,y,aU,aH,aG⟩:=LS aj;obtain ⟨aa,ad⟩:=ko he;have key:cE P aq all o=⟨iI none (e' P o) (bY all o)⟩:=by unfold cE;rw [show (eI aq o.dst&&iD (bY all o))=true from by rw [aa,ad];rfl,aG];rfl
 rw [key] at he ⊢;simp only [iI] at he ⊢;have vM:∀H,(e' P o).run call (dk r (bY all o)) H=gF .bad ((td P t).run H ((bS x).run (dk r (bY all o))) ((bS y).run (dk r (bY all o)))):=by intro H;unfold e';rw [aU]
 rw [vM] at he;cases aZ:(td P t).run h ((bS x).run (dk r (bY all o))) ((bS y).run (dk r (bY all o))) with
 | none=>rw [aZ] at he;cases he
 | some aJ=>
   rw [aZ] at he;simp only [gF,a7.val.injEq] at he;obtain ⟨rfl,rfl⟩:=he;unfold td at aZ;cases aE:ba P t with
   | none=>rw [aE] at aZ;cases aZ
   | some aO=>
     rw [aE] at aZ;simp only [w_] at aZ;obtain ⟨b,off,af,bu⟩:=y7 aZ;obtain ⟨ao,cV⟩:=ev bu;obtain ⟨k,b7,cj⟩:=ah3 cV;refine ⟨b,off,k,af,b7,fun H l6=>?_⟩;rw [vM];unfold td;rw [aE];simp only [w_,af,V.iQ,ao,apu,cj H l6,gF]
theorem ze {listed:Array Bool} (ig:∀i o,ops[i]? =some o->mq i o=true) (cq:listed.size=ops.size) (aC:Region.ready .any ops listed=[]):∀i,i<ops.size->listed.getD i false=true:=by
 intro i
 induction i using Nat.strongRecOn with
 | _ i bb=>
   intro ax;cases fQ:listed.getD i false with
   | true=>rfl
   | false=>
     exfalso;have cv:ops[i]? =some ops[i]:=apL ax;have ig:=ig i _ cv;have:i ∈ Region.ready .any ops listed:=by
      rw [mem_ready];refine ⟨?_,ops[i],cv,fun e he ah=>?_⟩
      . have aZ:i<listed.size:=by rw [cq];exact ax
        rw [apQ,apL aZ] at fQ ⊢;exact fQ
      . have aa:=apU.1 ig e (aqW.2 he);rw [xM] at ah;rw [ah] at aa;simp only [Bool.not_true,arF,apR] at aa;exact bb e.on aa (by omega)
     rw [aC] at this;simp at this
theorem w2 {listed:Array Bool} {i:Nat} (anJ:listed.size=ops.size) (ax:i ∈ Region.ready .any ops listed):i<ops.size/\¬listed.getD i false=true:=by rw [mem_ready] at ax;obtain ⟨aa,o,ad,_⟩:=ax;refine ⟨(apt.1 ad).1,fun h=>?_⟩;rw [tT] at h;rw [apQ,h] at aa;simp at aa
theorem LZ {rd:Option Nat} {ay:Fr} (bE:ec P) (cb:gq P call) (dC:gJ P call) (ig:∀i o,ops[i]? =some o->mq i o=true) {i:Nat} {o:Oper} (cv:ops[i]? =some o) (aH:o.dst=none) {r:bC} {h ab:ae} {v:V}
 (he:(cE P aq ops o).run call r h=.val v ab) {Q:Exit->Act->World->Prop} {E:Env} {a:Act} {w:World} (k:e8 E aq r a) (s:a8 ay E h w) (cy:∀ar w',E.le ar->a8 ay ar ab w'->Q .normal a w')
 {listed:Array Bool} (cq:listed.size=ops.size) (cW:∀j,j<ops.size->(listed.getD j false=true↔j≠i)) (fuel:Nat) (av:1<=fuel):wpAnyIn (b4 rd) 0 P .any ops Q fuel listed a w:=by
 have dI:i<ops.size:=(apt.1 cv).1;have fQ:i<listed.size:=by rw [cq];exact dI
 cases fuel with
 | zero=>omega
 | succ fuel=>
   refine ⟨fun aC=>absurd (ze ig cq aC i dI) (fun h=>((cW i dI).1 h) rfl),fun j bp=>?_⟩;obtain ⟨p5,wA⟩:=w2 cq bp;have Bb:j=i:=by
    rcases Nat.decEq j i with c4 | he
    . exact absurd ((cW j p5).2 c4) wA
    . exact he
   subst Bb;refine qO bE cb dC cv he k.size (fun t aE=>k.au t (ap5 (apU.1 (ko he).2 t aE))) s fun ar x w' ak al aI=>?_;rw [aH];refine wpAnyIn_done ?_ (cy ar w' ak aI) fuel;cases aC:Region.ready .any ops (listed.setIfInBounds j true) with
   | nil=>rfl
   | cons m ms=>
     exfalso;have hm:m ∈ Region.ready .any ops (listed.setIfInBounds j true):=by rw [aC];simp
     obtain ⟨m1,m2⟩:=w2 (by simp [cq]) hm;refine m2 ((fy fQ).2 ?_);by_cases RM:m=j
     . exact .inl RM
     . exact .inr ((cW m m1).2 RM)
theorem amp {rd:Option Nat} {ay:Fr} (bE:ec P) (cb:gq P call) (dC:gJ P call) (ig:∀i o,ops[i]? =some o->mq i o=true) {i j:Nat} {o p:Oper} (cv:ops[i]? =some o) (nP:ops[j]? =some p) (oO:i≠j) (aH:o.dst=none) (mc:p.dst=none)
 {r:bC} {h aa kt ad:ae} {v cd u fu:V} (he:(cE P aq ops o).run call r h=.val v aa) (af:(cE P aq ops p).run call r aa=.val u ad) (gZ:(cE P aq ops p).run call r h=.val fu kt) (ee:(cE P aq ops o).run call r kt=.val cd ad)
 {Q:Exit->Act->World->Prop} {E:Env} {a:Act} {w:World} (k:e8 E aq r a) (s:a8 ay E h w) (cy:∀ar w',E.le ar->a8 ay ar ad w'->Q .normal a w')
 {listed:Array Bool} (cq:listed.size=ops.size) (cW:∀m,m<ops.size->(listed.getD m false=true↔(m≠i/\m≠j))) (fuel:Nat) (av:2<=fuel):wpAnyIn (b4 rd) 0 P .any ops Q fuel listed a w:=by
 have dI:i<ops.size:=(apt.1 cv).1;have Bc:j<ops.size:=(apt.1 nP).1;have kF:∀{q:Oper} {H eg:ae} {z:V},(cE P aq ops q).run call r H=.val z eg->∀t ∈ bY ops q,Rel E (T.get .bad (aw t) r) (a.tmps.getD t undef):=
  fun he t aE=>k.au t (ap5 (apU.1 (ko he).2 t aE))
 cases fuel with
 | zero=>omega
 | succ fuel=>
   refine ⟨fun aC=>absurd (ze ig cq aC i dI) (fun h=>((cW i dI).1 h).1 rfl),fun m hm=>?_⟩;obtain ⟨m1,m2⟩:=w2 cq hm;have hE:m=i\/m=j:=by
    rcases Nat.decEq m i with c4 | he
    . rcases Nat.decEq m j with aec | d'
      . exact absurd ((cW m m1).2 ⟨c4,aec⟩) m2
      . exact .inr d'
    . exact .inl he
   rcases hE with rfl | rfl
   . refine qO bE cb dC cv he k.size (kF he) s fun ar x w' ak al aI=>?_;rw [aH];have fQ:m<listed.size:=by rw [cq];exact dI
     refine LZ bE cb dC ig nP mc af (k.mono ak) aI (fun bA bx cc cx=>cy bA bx (ak.trans cc) cx) (by simp [cq]) (fun z bk=>?_) fuel (by omega);rw [fy fQ,cW z bk];constructor
     . rintro (rfl | h)
       . exact oO
       . exact h.2
     . intro h;by_cases Bz:z=m
       . exact .inl Bz
       . exact .inr ⟨Bz,h⟩
   . refine qO bE cb dC nP gZ k.size (kF gZ) s fun ar x w' ak al aI=>?_;rw [mc];have fQ:m<listed.size:=by rw [cq];exact Bc
     refine LZ bE cb dC ig cv aH ee (k.mono ak) aI (fun bA bx cc cx=>cy bA bx (ak.trans cc) cx) (by simp [cq]) (fun z bk=>?_) fuel (by omega);rw [fy fQ,cW z bk];constructor
     . rintro (rfl | h)
       . exact fun e=>oO e.symm
       . exact h.1
     . intro h;by_cases Bz:z=m
       . exact .inl Bz
       . exact .inr ⟨h,Bz⟩
theorem VU {rd:Option Nat} {id:Nat} {a:Act} {w:World} {Q:Exit->Act->World->Prop} (hm:P.follows .mixedOrders=true)
 (h:wpAnyIn (b4 rd) 0 P .any ops Q ops.size (Array.replicate ops.size false) a {w with drawn:=w.drawn+1}):(Code.region id ops true).wpIn (b4 rd) 0 P Q a w:=by
 refine wpIn_region_draw fun t=>?_;rw [hm];exact wpAnyIn_sound _ _ _ _ _ h
theorem L4 {r a_:bC}:∀{rs:List Nat},(∀t ∈ rs,T.get .bad (aw t) a_=T.get .bad (aw t) r)->dk a_ rs=dk r rs
 | [],_=>rfl
 | t::bq,h=>by simp only [dk];rw [h t (by simp),L4 (rs:=bq) fun u hu=>h u (by simp [hu])]
theorem aaE {all:Array Oper} {o:Oper} {call:dO} {r a_:bC} (h:∀t ∈ bY all o,T.get .bad (aw t) a_=T.get .bad (aw t) r) (H:ae):(cE P aq all o).run call a_ H=(cE P aq all o).run call r H:=by
 unfold cE;cases ao:(eI aq o.dst&&iD (bY all o)) with
 | false=>rfl
 | true=>
   simp only [apu];cases aG:o.guard with
   | none=>simp only [iI,L4 h]
   | some nV=>
     obtain ⟨j,want⟩:=nV;simp only;cases all[j]? with
     | none=>rfl
     | some g=>
       simp only;cases g.dst with
       | none=>rfl
       | some d=>
         simp only;cases (Nat.blt d aq&&Nat.ble d top) with
         | false=>rfl
         | true=>simp only [apu,iI,L4 h]
theorem amo {rd:Option Nat} {ay:Fr} (bE:ec P) (cb:gq P call) (dC:gJ P call) (ig:∀i o,ops[i]? =some o->mq i o=true) {l i j:Nat} {b o p:Oper} (v8:ops[l]? =some b) (cv:ops[i]? =some o) (nP:ops[j]? =some p)
 (fQ:l≠i) (RE:l≠j) (oO:i≠j) (aH:o.dst=none) (mc:p.dst=none) {r bM:bC} {h aa kt ad:ae} {z v cd u fu:V}
 (ah:∀H,(cE P aq ops b).run call r H=.val z H) (wc:bM=(ft b.dst).run r z) (yy:∀t ∈ bY ops p,T.get .bad (aw t) bM=T.get .bad (aw t) r)
 (he:(cE P aq ops o).run call bM h=.val v aa) (af:(cE P aq ops p).run call bM aa=.val u ad) (gZ:(cE P aq ops p).run call bM h=.val fu kt) (ee:(cE P aq ops o).run call bM kt=.val cd ad)
 {Q:Exit->Act->World->Prop} {E:Env} {a:Act} {w:World} (k:e8 E aq r a) (s:a8 ay E h w) (cy:∀ar bl w',E.le ar->e8 ar aq bM bl->a8 ay ar ad w'->Q .normal bl w')
 {listed:Array Bool} (cq:listed.size=ops.size) (AU:qB ops fun k=>listed.getD k false=true) (ae0:∀cN,(eE [] ops.toList)[i]? =some cN->fC cN l=true) (l9:∃cN,(eE [] ops.toList)[i]? =some cN)
 (cW:∀m,m<ops.size->(listed.getD m false=true↔(m≠l/\m≠i/\m≠j))) (fuel:Nat) (av:3<=fuel):wpAnyIn (b4 rd) 0 P .any ops Q fuel listed a w:=by
 have iL:l<ops.size:=(apt.1 v8).1;have dI:i<ops.size:=(apt.1 cv).1;have Bc:j<ops.size:=(apt.1 nP).1;have kF:∀{E:Env} {a:Act} {q:Oper} {R:bC} {H eg:ae} {z:V},e8 E aq R a->(cE P aq ops q).run call R H=.val z eg->∀t ∈ bY ops q,Rel E (T.get .bad (aw t) R) (a.tmps.getD t undef):=
  fun k he t aE=>k.au t (ap5 (apU.1 (ko he).2 t aE))
 have TB:∀(L:Array Bool),(qB ops fun k=>L.getD k false=true)->¬L.getD l false=true->i ∈ Region.ready .any ops L->False:=by
  intro L acR uf ud;rw [mem_ready] at ud;obtain ⟨_,b2,gY,vP⟩:=ud;rw [cv] at gY;cases gY;obtain ⟨cN,l9⟩:=l9;have ye:qB ops fun k=>L.getD k false=true\/k=i:=by
   intro k ok e aB bz he ah;rcases aB with aB | rfl
   . exact .inl (acR k ok e aB bz he ah)
   . rw [cv] at bz;cases bz;exact .inl (vP e (aqW.1 he) (by rw [xM];exact ah))
  rcases BX ye ops.toList [] (fun j=>by simp) (fun k m j aB=>by simp at aB) i cN l l9 (ae0 cN l9) (.inr rfl) with h | h
  . exact uf h
  . exact fQ h
 have aaJ:∀m,m ∈ Region.ready .any ops listed->qB ops fun k=>(listed.setIfInBounds m true).getD k false=true:=by
  intro m hm k ok e aB bz he ah;have nQ:=hm;rw [mem_ready] at nQ;obtain ⟨_,TR,RT,vP⟩:=nQ;have Jy:m<listed.size:=by rw [cq];exact (apt.1 RT).1
  rw [fy Jy] at aB ⊢;rcases aB with rfl | aB
  . rw [RT] at bz;cases bz;exact .inr (vP e (aqW.1 he) (by rw [xM];exact ah))
  . exact .inr (AU k ok e aB bz he ah)
 cases fuel with
 | zero=>omega
 | succ fuel=>
   refine ⟨fun aC=>absurd (ze ig cq aC i dI) (fun h=>((cW i dI).1 h).2.1 rfl),fun m hm=>?_⟩;obtain ⟨m1,m2⟩:=w2 cq hm;have hE:m=l\/m=j:=by
    rcases Nat.decEq m l with di | aK
    . rcases Nat.decEq m j with iO | aS
      . rcases Nat.decEq m i with n3 | bU
        . exact absurd ((cW m m1).2 ⟨di,n3,iO⟩) m2
        . subst bU;exact (TB listed AU (fun h=>((cW l iL).1 h).1 rfl) hm).elim
      . exact .inr aS
    . exact .inl aK
   rcases hE with rfl | rfl
   . -- p first
     have lF:m<listed.size:=by rw [cq];exact iL
     refine qO bE cb dC v8 (ah h) k.size (kF k (ah h)) s fun ar x w' ak al aI=>?_;have b7:e8 ar aq bM (a.put b.dst x):=by rw [wc];exact (k.mono ak).put (ko (ah h)).1 al
     refine amp bE cb dC ig cv nP oO aH mc he af gZ ee b7 aI (fun bA bx cc cx=>cy bA _ bx (ak.trans cc) (b7.mono cc) cx) (by simp [cq]) (fun y a6=>?_) fuel (by omega);rw [fy lF,cW y a6];constructor
     . rintro (rfl | h)
       . exact ⟨fQ,RE⟩
       . exact h.2
     . intro h;by_cases Bx:y=m
       . exact .inl Bx
       . exact .inr ⟨Bx,h⟩
   . -- q first
     have lF:m<listed.size:=by rw [cq];exact Bc
     have gg:(cE P aq ops p).run call r h=.val fu kt:=by rw [<-aaE yy];exact gZ
     have acS:=aaJ m hm;refine qO bE cb dC nP gg k.size (kF k gg) s fun ar x w' ak al aI=>?_;rw [mc];have wk:(listed.setIfInBounds m true).size=ops.size:=by simp [cq]
     cases fuel with
     | zero=>omega
     | succ fuel=>
       refine ⟨fun aC=>absurd (ze ig wk aC i dI) (fun h=>?_),fun y a6=>?_⟩
       . rcases (fy lF).1 h with e | h
         . exact oO e
         . exact ((cW i dI).1 h).2.1 rfl
       obtain ⟨dz,fo⟩:=w2 wk a6;have ae9:y=l:=by
        rcases Nat.decEq y l with di | aK
        . rcases Nat.decEq y i with n3 | bU
          . exfalso;refine fo ((fy lF).2 ?_);by_cases Bx:y=m
            . exact .inl Bx
            . exact .inr ((cW y dz).2 ⟨di,n3,Bx⟩)
          . subst bU;refine (TB _ acS (fun h=>?_) a6).elim;rcases (fy lF).1 h with e | h
            . exact RE e
            . exact ((cW l iL).1 h).1 rfl
        . exact aK
       subst ae9;have br:=k.mono ak;refine qO bE cb dC v8 (ah kt) br.size (kF br (ah kt)) aI fun bA hy bx t1 t2 t3=>?_;have b7:e8 bA aq bM (a.put b.dst hy):=by rw [wc];exact (br.mono t1).put (ko (ah h)).1 t2
       have Ju:y < (listed.setIfInBounds m true).size:=by rw [wk];exact iL
       refine LZ bE cb dC ig cv aH ee b7 t3 (fun fU np cc cx=>cy fU _ np (ak.trans (t1.trans cc)) (b7.mono cc) cx) (by simp [cq]) (fun g aG=>?_) fuel (by omega);rw [fy Ju,fy lF,cW g aG];constructor
       . rintro (rfl | rfl | h)
         . exact fQ
         . exact fun e=>oO e.symm
         . exact h.2.1
       . intro h;by_cases aK:g=y
         . exact .inl aK
         . by_cases aS:g=m
           . exact .inr (.inl aS)
           . exact .inr (.inr ⟨aK,h,aS⟩)
theorem H' {rd:Option Nat} {ay:Fr} {E:Env} {h:ae} {w:World} {id:Nat} (cJ:P.follows .mixedOrders=true) (bE:ec P) (cb:gq P call) (dC:gJ P call) {r:bC} {a:Act}
 {Q:Exit->Act->World->Prop} (k:e8 E aq r a) (s:a8 ay E h w) {es:List eK} {et:bC} {a':ae} {order aD en:List Nat} {N M:Nat} (C:Cert P aq ops (fun _=>call) es r h et a' en order aD N M false)
 (cy:N=ops.size->∀ar bl w',E.le ar->e8 ar aq et bl->a8 ay ar a' w'->Q .normal bl w')
 (gx:∀ar bl w' x v ab,E.le ar->N<ops.size->ops.size<=M->(∃i0 gE,ops[i0]? =some gE/\posOf aD i0=N/\(cE P aq ops gE).run call et a'=.cK v ab)->e8 ar aq (oD r ops.toList) bl->Rel ar v x->a8 ay ar ab w'->Q (.panic (qd x)) bl w')
 (dN:M<ops.size->∀(fuel:Nat) (listed:Array Bool) ar bl w',(List.range ops.size).countP (fun i=>!listed.getD i false)<=fuel->listed.size=ops.size->qB ops (fun k=>listed.getD k false=true)->(∀k,k<ops.size->(listed.getD k false=true↔posOf aD k<N))->
   E.le ar->e8 ar aq et bl->a8 ay ar a' w'->wpAnyIn (b4 rd) 0 P .any ops Q fuel listed bl w'):
 (Code.region id ops true).wpIn (b4 rd) 0 P Q a w:=by
 have dp:∀k,¬(Array.replicate ops.size false).getD k false=true:=by
  intro k;rw [tT,Array.getElem?_replicate]
  split<;>simp
 have j4:Holds ay ay es a' aD (jW ops es a' aD (Array.replicate ops.size false) 0):=
  ⟨rfl,fun _ _=>rfl,fun k aB=>(by obtain ⟨_,_,_,_,aY⟩:=aB;omega),fun k br aB=>(by obtain ⟨_,_,_,_,aY⟩:=aB;omega)⟩
 obtain ⟨fT,dQ,g1,g2,g3,g4,g5,g6⟩:=C.advance N 0 (by omega) (fun k o _ _ _=>dp k) ay j4 (E:=E) (w:={w with drawn:=w.drawn}) (by rw [C.aY];exact s.same rfl rfl rfl rfl);have ky:∀(ar:Env) (bl:Act),E.le ar->bl.defers=a.defers->∀(a_:bC),T.get .bad eH a_=T.get .bad eH r->lz ar (T.get .bad eH a_) bl.defers:=fun ar bl he aH a_ sG=>by rw [sG,aH];exact k.defers.mono he
 have EC:T.get .bad eH et=T.get .bad eH r:=by have:=C.H_ N (apv _);have JE:es[N]? =none:=apT (by rw [C.len];exact apv _);simpa [eb,JE] using this
 refine VU cJ (PS bE (fun _=>cb) (fun _=>dC) C (ga:=E) (D:=a.defers)
  (fun aV ar bl w' ak al aI bB=>cy aV ar bl w' ak ⟨al,ky ar bl ak aI et EC⟩ bB)
  (fun ar bl w' x v ab ak al Uw aI bB cG ef hO=>gx ar bl w' x v ab ak al Uw aI ⟨bB,ky ar bl ak cG _ DW⟩ ef hO)
  (fun g0 fuel listed ar bl w' g1 g2 g3 g4 ak al aI bB=>dN g0 fuel listed ar bl w' g1 g2 g3 g4 ak ⟨al,ky ar bl ak aI et EC⟩ bB) ops.size _ a _ ?_ ?_)
 . exact aqo arx (by simp)
 . refine ⟨by simp,k.size,rfl,fun br aB=>absurd aB (dp br),fun br o e aB=>absurd aB (dp br),E,fT,dQ,Env.le.refl E,g1,g3,fun br o aa ad=>⟨fun h=>absurd h (dp br),fun h=>by have:=g4 br o aa ad (aqS _);omega⟩,
    fun br o _ _ h=>absurd h (dp br),g5,?_,fun t aE=>.inr ⟨fun br o aB=>absurd aB (dp br),k.au t aE⟩⟩
   exact g6.same rfl rfl rfl rfl
theorem T6 {n:Nat} {order aD:List Nat} (hp:lp n order aD=true):order.length=n/\(∀k,k<n->posOf aD k<n/\order[posOf aD k]? =some k)/\∀p,p<n->∃i,i<n/\posOf aD i=p:=by
 unfold lp at hp;simp only [apq,apV] at hp;obtain ⟨oQ,yr,Bi,Bj⟩:=hp;refine ⟨oQ,fun k aB=>?_,fun p af=>?_⟩
 . have aG:aD[k]? =some (posOf aD k):=by
    unfold posOf;rw [apr (by omega)];rfl
   have:=uN Bi aG;rw [apW] at this;exact ⟨by have:=(apN.1 this).1;omega,this⟩
 . have aG:order[p]? =some (order[p]'(by omega)):=apr (by omega);have:=uN Bj aG;rw [apW] at this;refine ⟨order[p]'(by omega),by have:=(apN.1 this).1;omega,?_⟩;unfold posOf;rw [this];rfl
theorem amm {order aD:List Nat} (av:Cv P ops order aD=true):3<=ops.size/\∀i o,ops[i]? =some o->∃cN,(eE [] ops.toList)[i]? =some cN/\mq i o=true/\
 (posOf aD i<ops.size-3->∀k ok,ops[k]? =some ok->posOf aD k<ops.size-3->∃mk,(eE [] ops.toList)[k]? =some mk/\o4 i cN (bY ops o) o.dst k mk ok (Nat.blt (posOf aD k) (posOf aD i))=true/\(eN P o.op=true->dY P ok=true->posOf aD k<posOf aD i->fC cN k=true))/\
 (¬posOf aD i<ops.size-3->GB P ops order aD (ops.size-3) i cN o=true):=by
 unfold Cv at av;simp only [apq,apE] at av;refine ⟨av.1,fun i o ax=>?_⟩;obtain ⟨cN,aa,ad⟩:=qw av.2 i o (by simpa using ax);simp only [apW,apq] at ad;refine ⟨cN,aa,ad.1,fun aR k ok aB kA=>?_,fun ie=>?_⟩
 . have aJ:=ad.2;rw [show Nat.blt (posOf aD i) (ops.size-3)=true from by rw [apR];exact aR] at aJ;simp only [apu] at aJ;obtain ⟨mk,b7,cj⟩:=qw aJ k ok (by simpa using aB);simp only [apW] at cj;rw [show Nat.blt (posOf aD k) (ops.size-3)=true from by rw [apR];exact kA] at cj;simp only [apu,apq] at cj;refine ⟨mk,b7,cj.1,fun aK aS aR=>?_⟩;have ei:=cj.2;rw [aK,aS,ap6,show Nat.blt (posOf aD k) (posOf aD i)=true from by rw [apR];exact aR] at ei;exact ei
 . have aJ:=ad.2;rw [show Nat.blt (posOf aD i) (ops.size-3)=false from by rw [<-ap2,apR];exact ie] at aJ;exact aJ
theorem amn {order aD:List Nat} {N i cN p:Nat} {o h3:Oper} (af:order[N]? =some p) (lG:ops[p]? =some h3) (h:GB P ops order aD N i cN o=true):
 (∀k,k<ops.size->posOf aD k<N->fC cN k=true)/\(posOf aD i=N->eN P o.op=false/\looks o.op=false)/\(posOf aD i≠N->∃x,te o=some x)/\
 (posOf aD i=N+1->fC cN p=true)/\(posOf aD i=N+2->∀t ∈ bY ops o,h3.dst≠some t):=by
 unfold GB at h;rw [af] at h;simp only [apq] at h;obtain ⟨⟨aa,ad⟩,aJ,bu⟩:=h;refine ⟨fun k aB Jl=>?_,fun e=>?_,fun e=>?_,fun e=>?_,fun e t aE=>?_⟩
 . obtain ⟨mk,b7,cj⟩:=qw aa k ops[k] (by simp);simp only [apW] at cj;rw [show Nat.blt (posOf aD k) N=true from by rw [apR];exact Jl] at cj;exact cj
 . rw [hi,apz e] at ad;simpa using ad
 . rw [hi,apw e] at ad;exact Option.isSome_iff_exists.1 ad
 . rw [hi,apz e] at aJ;exact aJ
 . rw [hi,apz e,lG] at bu;simp only at bu;intro aH;rw [aH] at bu;simp only [aqh] at bu;rw [show (bY ops o).contains t=true from by simpa using aE] at bu;cases bu
theorem I4 {es:List eK} {a':ae} {N p:Nat} (af:p<=N):b' (es.take N) (b' es a' N) p=b' es a' p:=by
 by_cases h:p<N
 . cases he:es[p]? with
   | some e=>simp [b',h,he]
   | none=>
     have aV:es[N]? =none:=apT (by have:=List.getElem?_eq_none_iff.1 he;omega);simp [b',h,he,aV]
 . have:p=N:=by omega
   subst this;simp [b',List.getElem?_take]
theorem UK {es:List eK} {et:bC} {N p:Nat} (af:p<=N):eb (es.take N) (eb es et N) p=eb es et p:=by
 by_cases h:p<N
 . cases he:es[p]? with
   | some e=>simp [eb,h,he]
   | none=>
     have aV:es[N]? =none:=apT (by have:=List.getElem?_eq_none_iff.1 he;omega);simp [eb,h,he,aV]
 . have:p=N:=by omega
   subst this;simp [eb,List.getElem?_take]
theorem XM {order:List Nat} {es:List eK} {N i j:Nat} {o p:Oper} {e f:eK} {x y:Operand} (bt:Dj ops order es N=true) (ax:order[N]? =some i) (bp:order[N+1]? =some j) (cv:ops[i]? =some o) (nP:ops[j]? =some p)
 (he:es[N]? =some e) (av:es[N+1]? =some f) (aj:te o=some x) (a6:te p=some y) {b c:aL} {off kL:Nat} (ah:(bS x).run (dk e.r (bY ops o))=.ptr b off) (ao:(bS y).run (dk f.r (bY ops p))=.ptr c kL):b≠c:=by
 unfold Dj LU at bt;simp only [ax,bp,cv,nP,he,av,aj,a6,ah,ao] at bt;intro h;subst h;rw [aL.AH] at bt;cases bt
theorem aaL {rd:Option Nat} {ay:Fr} {E:Env} {h:ae} {w:World} {id:Nat} (cJ:P.follows .mixedOrders=true) (bE:ec P) (cb:gq P call) (dC:gJ P call) {r:bC} {a:Act} {order aD:List Nat} (hp:lp ops.size order aD=true) (gX:Cv P ops order aD=true)
 {Q:Exit->Act->World->Prop} (af:nA ay E aq (Q .normal) Q (H9 ops order (fm P aq ops (hc ops order)) (r9 P aq ops (eE [] ops.toList) aD (hs P aD 0 ops.toList) 0 ops.toList) call r h)) (k:e8 E aq r a) (s:a8 ay E h w):(Code.region id ops true).wpIn (b4 rd) 0 P Q a w:=by
 obtain ⟨oQ,h4,lo⟩:=T6 hp;obtain ⟨ad,gX⟩:=amm gX;unfold H9 at af;cases cz:(fm P aq ops (hc ops order)).run call r h with
 | fail=>rw [cz] at af;exact af.elim
 | cK _ _ _ _ _=>rw [cz] at af;exact af.elim
 | ok es et a'=>
   rw [cz] at af;simp only at af;obtain ⟨N,ac6⟩:∃N,N=ops.size-3:=⟨_,rfl⟩;rw [<-ac6] at af gX;cases az:(Dj ops order es (N+1)&&(r9 P aq ops (eE [] ops.toList) aD (hs P aD 0 ops.toList) 0 ops.toList).run call (es.take N) (b' es a' N)) with
   | false=>rw [az] at af;exact af.elim
   | true=>
     rw [az] at af;simp only [apu] at af;simp only [apq] at az;obtain ⟨Et,AY⟩:=az;obtain ⟨ak,al,aI,bB⟩:=uZ cz;have hlen:es.length=ops.size:=by rw [ak,qb,oQ]
     have inj:∀i j,i<ops.size->j<ops.size->posOf aD i=posOf aD j->i=j:=by intro i j ax bp he;have a:=(h4 i ax).2;have b:=(h4 j bp).2;rw [he,b] at a;cases a;rfl
     obtain ⟨mg,tW,yf⟩:=lo N (by omega);obtain ⟨oU,yb,yc⟩:=lo (N+1) (by omega);obtain ⟨rj,vH,AT⟩:=lo (N+2) (by omega);have A_:ops[mg]? =some ops[mg]:=apL tW;have EG:ops[oU]? =some ops[oU]:=apL yb;have EH:ops[rj]? =some ops[rj]:=apL vH;have JL:=(h4 mg tW).2;have JJ:=(h4 oU yb).2;have JK:=(h4 rj vH).2;rw [yf] at JL;rw [yc] at JJ;rw [AT] at JK;have yz:∀i o,ops[i]? =some o->¬posOf aD i<N->∃cN,(eE [] ops.toList)[i]? =some cN/\(∀k,k<ops.size->posOf aD k<N->fC cN k=true)/\(posOf aD i=N->eN P o.op=false/\looks o.op=false)/\(posOf aD i≠N->∃x,te o=some x)/\
      (posOf aD i=N+1->fC cN mg=true)/\(posOf aD i=N+2->∀t ∈ bY ops o,ops[mg].dst≠some t):=by
      intro i o ax ie;obtain ⟨cN,bJ,_,_,z4⟩:=gX i o ax;exact ⟨cN,bJ,amn JL A_ (z4 ie)⟩
     obtain ⟨aoA,_,_,aml,_⟩:=yz mg _ A_ (by omega);obtain ⟨aiJ,RJ,_,_,Cu,an,_⟩:=yz oU _ EG (by omega);obtain ⟨aoz,sB,_,_,zu,_,Ls⟩:=yz rj _ EH (by omega);obtain ⟨P8,aiE⟩:=aml yf;obtain ⟨aph,J6⟩:=Cu (by omega);obtain ⟨api,J7⟩:=zu (by omega);have an:=an yc;have Ls:=Ls AT;obtain ⟨Ig,eX,hr,Kp⟩:=bB _ _ (nf JL A_);obtain ⟨vx,bD,a2,a3⟩:=bB _ _ (nf JJ EG);obtain ⟨P7,b8,cg,eM⟩:=bB _ _ (nf JK EH);obtain ⟨ao8,apl,ajA,PC,anZ⟩:=LS J6;obtain ⟨ao9,apm,aoN,PD,an0⟩:=LS J7;have dp:es[N+2+1]? =none:=apT (by omega);have ad2:b' es a' (N+2+1)=a':=by simp [b',dp]
     have ald:eb es et (N+2+1)=et:=by simp [eb,dp]
     have ac5:b' es a' N=Ig.h:=by simp [b',eX]
     have akT:eb es et N=Ig.r:=by simp [eb,eX]
     have ac3:b' es a' (N+1)=vx.h:=by simp [b',bD]
     have akR:eb es et (N+1)=vx.r:=by simp [eb,bD]
     have ac4:b' es a' (N+1+1)=P7.h:=by simp [b',b8]
     have akS:eb es et (N+1+1)=P7.r:=by simp [eb,b8]
     rw [akR] at Kp;rw [ac3] at hr;rw [PC,akS] at a3;rw [PD,ald] at eM;simp only [ft] at a3 eM;rw [ac4] at a2;rw [ad2] at cg;obtain ⟨ac1,IK⟩:=vv P8 hr;have IK:=IK aiE;obtain ⟨Nt,aoO,afH,akj,UY,amP⟩:=PO J6 a2;obtain ⟨HG,aoP,Sw,akk,alA,amQ⟩:=PO J7 cg;have c4:Nt≠HG:=XM Et JJ JK EG EH bD b8 J6 J7 akj akk;have IG:=amQ vx.h (by rw [UY,ae.dV,apw c4]);have AS:=amP (vx.h.set HG Sw) (by rw [ae.dV,apw (fun e=>c4 e.symm)]);have ado:(vx.h.set HG Sw).set Nt afH=a':=by rw [ae.set_comm _ (fun e=>c4 e.symm),<-UY,<-alA]
     rw [ado] at AS;rw [a3] at IG cg;have wg:et=vx.r:=eM.trans a3;have ad_:∀m,m<ops.size->(posOf aD m<N↔(m≠mg/\m≠oU/\m≠rj)):=by
      intro m hm;have aor:=(h4 m hm).1;constructor
      . intro h;exact ⟨fun e=>by subst e;omega,fun e=>by subst e;omega,fun e=>by subst e;omega⟩
      . rintro ⟨b_,di,iO⟩;have pw:posOf aD m≠N:=fun e=>b_ (inj m mg hm tW (by rw [e,yf]));have bK:posOf aD m≠N+1:=fun e=>di (inj m oU hm yb (by rw [e,yc]));have bR:posOf aD m≠N+2:=fun e=>iO (inj m rj hm vH (by rw [e,AT]));omega
     have adn:dY P ops[oU]=true:=by unfold dY gh;rw [ajA];rfl
     have yy:∀t ∈ bY ops ops[rj],T.get .bad (aw t) vx.r=T.get .bad (aw t) Ig.r:=by intro t aE;have yB:t<=top:=ap5 (apU.1 (ko cg).2 t aE);rw [Kp,QQ (ko hr).1 yB,apw (Ls t aE)]
     have hF:∀i o,ops[i]? =some o->posOf aD i<N->∃e,(es.take N)[posOf aD i]? =some e/\(cE P aq ops o).run call e.r e.h=.val e.v (b' (es.take N) (b' es a' N) (posOf aD i+1))/\eb (es.take N) (eb es et N) (posOf aD i+1)=(ft o.dst).run e.r e.v:=by
      intro i o aU ax;obtain ⟨e,bJ,z2,z3⟩:=bB _ o (nf (h4 i (apt.1 aU).1).2 aU);refine ⟨e,by simp [ax,bJ],?_,?_⟩
      . rw [I4 (by omega)];exact z2
      . rw [UK (by omega)];exact z3
     have C:Cert P aq ops (fun _=>call) (es.take N) r h (eb es et N) (b' es a' N) (N::hs P aD 0 ops.toList) order aD N N false:=
      ⟨by simp [hlen];omega,by omega,apv _,h4,lo,by rw [I4 (aqS _)];exact al,by rw [UK (aqS _)];exact aI,hF,
        fun i o aU=>by
         obtain ⟨cN,bJ,z2,z3,_⟩:=gX i o aU
         exact ⟨cN,bJ,z2,fun ax k ok aB Jk=>by
          obtain ⟨mk,dz,fo,y3⟩:=z3 ax k ok aB Jk
          exact ⟨mk,dz,fo,fun a b c=>.inl (y3 a b c)⟩⟩,
        by simp,
        fun j o aa ad=>apZ _ (by simpa using yM (aD:=aD) (i:=0) (j:=j) (l:=ops.toList) (by simpa using aa) ad),
        fun s aZ=>by
         rcases apJ.1 aZ with rfl | aZ
         . exact .inl (.inr ⟨rfl,rfl⟩)
         . rcases uB aZ with h | ⟨j,o,aa,ad,aJ⟩
           . exact .inl (.inl (by simpa using h))
           . exact .inr ⟨j,o,by simpa using aa,ad,by simpa using aJ⟩,
        fun j o aa ad aJ bu=>by
         obtain ⟨e,g1,_⟩:=hF j o aa bu;have R7:=HB AY j o (by simpa using aa) ad aJ e (by simpa using g1);refine ⟨e,g1,fun s aZ hm=>?_⟩;rcases apJ.1 aZ with rfl | aZ
         . have mU:sV P (eE [] ops.toList) ops.toList aD j (((eE [] ops.toList)[j]?).getD 0) (s+1)=true:=by
            unfold sV at hm ⊢;refine Mk (by rw [KI];simp) fun cT mk ok dz fo=>?_;obtain ⟨mk',bF,hy⟩:=qw hm cT ok fo;rw [dz] at bF;cases bF;simp only [apW] at hy ⊢;have bz:ops[cT]? =some ok:=by simpa using fo
            have kA:=(apt.1 bz).1;by_cases q9:posOf aD cT=s
            . have:cT=mg:=inj cT mg kA tW (by rw [q9,yf]);subst this;rw [A_] at bz;cases bz;have aeb:dY P ops[cT]=false:=by unfold dY;rw [P8];rfl
              rw [aeb];rfl
            . have:Nat.blt (posOf aD cT) (s+1)=Nat.blt (posOf aD cT) s:=by
               rw [aqm,apR,apR];omega
              rw [this];exact hy
           have ud:s+1 ∈ hs P aD 0 ops.toList:=by rw [<-yc];simpa using yM (P:=P) (aD:=aD) (i:=0) (j:=oU) (l:=ops.toList) (by simp) adn
           obtain ⟨ab,g3⟩:=R7 (s+1) ud (by simpa using mU);refine ⟨call,ab,⟨cb,dC⟩,?_⟩;have aK:b' (es.take s) (b' es a' s) (s+1)=b' es a' s:=by have:(es.take s)[s+1]? =none:=apT (by simp;omega);simp only [b',this]
           have aS:b' (es.take s) (b' es a' s) s=b' es a' s:=I4 (apv _);rw [aK] at g3;rw [aS];exact g3
         . obtain ⟨ab,g3⟩:=R7 s aZ (by simpa using hm);exact ⟨call,ab,⟨cb,dC⟩,g3⟩,
        fun _=>⟨rfl,fun cT ok mk aB ie Jx j bp Ba=>by obtain ⟨cN,bJ,z2,_⟩:=yz cT ok aB (by omega);rw [Jx] at bJ;cases bJ;exact z2 j bp Ba⟩,
        fun aa ad=>by omega⟩
     refine H' cJ bE cb dC k s C (fun h=>by omega) (fun _ _ _ _ _ _ _ _ h=>by omega) (fun _ fuel listed ar bl w' g1 g2 g3 g4 g5 g6 g7=>?_);rw [akT] at g6;rw [ac5] at g7;rw [ac1] at a2 IG AS;refine amo bE cb dC (fun i o aU=>by obtain ⟨cN,_,z2,_⟩:=gX i o aU;exact z2) A_ EG EH (fun e=>by rw [e] at yf;omega) (fun e=>by rw [e] at yf;omega) (fun e=>by rw [e] at yc;omega) PC PD
      IK Kp yy a2 cg IG AS g6 g7 (fun bA a2 bx cc cx eF=>af bA a2 bx (g5.trans cc) (by rw [wg];exact cx) eF) g2 g3 (fun cN l9=>by rw [RJ] at l9;cases l9;exact an) ⟨aiJ,RJ⟩ (fun m hm=>(g4 m hm).trans (ad_ m hm)) fuel ?_
     have HZ:∀(L:Array Bool) (x:Nat),L.size=ops.size->x<ops.size->¬L.getD x false=true->(List.range ops.size).countP (fun k=>!(L.setIfInBounds x true).getD k false) < (List.range ops.size).countP (fun k=>!L.getD k false):=by
      intro L x df aj aV;have yF:x<L.size:=by rw [df];exact aj
      refine DG (fun k=>!L.getD k false) (fun k=>!(L.setIfInBounds x true).getD k false) (List.range ops.size) (fun k _ aB=>?_) ⟨x,aqQ.2 aj,?_,?_⟩
      . simp only [aqh] at aB ⊢;cases az:L.getD k false with
        | false=>rfl
        | true=>
          have:=(fy (k:=k) yF).2 (.inr az);rw [aB] at this;cases this
      . cases az:L.getD x false with
        | false=>rfl
        | true=>exact absurd az aV
      . have:=(fy (k:=x) yF).2 (.inl rfl);simp [this]
     have ajb:¬listed.getD mg false=true:=fun h=>by have:=(g4 mg tW).1 h;omega
     have ai9:¬listed.getD oU false=true:=fun h=>by have:=(g4 oU yb).1 h;omega
     have ai':¬listed.getD rj false=true:=fun h=>by have:=(g4 rj vH).1 h;omega
     have bK:=HZ listed mg g2 tW ajb
     have bR:=HZ (listed.setIfInBounds mg true) oU (by simp [g2]) yb (fun h=>by
      rcases (fy (by rw [g2];exact tW)).1 h with e | h
      . rw [e] at yc;omega
      . exact ai9 h)
     have c3:=HZ ((listed.setIfInBounds mg true).setIfInBounds oU true) rj (by simp [g2]) vH (fun h=>by
      rcases (fy (by simp [g2];exact yb)).1 h with e | h
      . rw [e] at AT;omega
      . rcases (fy (by rw [g2];exact tW)).1 h with e | h
        . rw [e] at AT;omega
        . exact ai' h)
     omega
end
section
variable {P:Program} {aq:Nat} {ops:Array Oper} {call:dO}
inductive pc {α β:Type} (R:α->β->Prop):List α->List β->Prop
 | nil:pc R [] []
 | cons {a:α} {b:β} {KC:List α} {KD:List β} (h:R a b) (t:pc R KC KD):pc R (a::KC) (b::KD)
def w1 (ops:Array Oper) (t:Nat) (listed:Array Bool):Option Nat:=(Region.ready .any ops listed)[t % (Region.ready .any ops listed).length]?
theorem go_succ (fuel t:Nat) (listed:Array Bool):Region.linearise.go .any ops (fuel+1) t listed []=match w1 ops t listed with
 | some i=>i::Region.linearise.go .any ops fuel (t / (Region.ready .any ops listed).length) (listed.setIfInBounds i true) []
 | none=>[]:=by
 simp only [Region.linearise.go]
 change (match (Region.ready .any ops listed)[t % (Region.ready .any ops listed).length]? with
  | some i=>Region.linearise.go .any ops fuel (t / (Region.ready .any ops listed).length) (listed.setIfInBounds i true) [i]
  | none=>[].reverse)=_
 unfold w1;cases (Region.ready .any ops listed)[t % (Region.ready .any ops listed).length]? with
 | none=>rfl
 | some i=>
   simp only;rw [linearise_go_acc,List.reverse_singleton,List.singleton_append]
theorem UH {t:Nat} {listed:Array Bool} (h:w1 ops t listed=none):Region.ready .any ops listed=[]:=by
 unfold w1 at h;cases aC:Region.ready .any ops listed with
 | nil=>rfl
 | cons x xs=>
   rw [aC] at h;have aR:t % (x::xs).length < (x::xs).length:=Nat.mod_lt _ (by simp);rw [apr aR] at h;cases h
theorem Lu {t i:Nat} {listed:Array Bool} (h:w1 ops t listed=some i):i ∈ Region.ready .any ops listed:=apY h
theorem count_set {listed:Array Bool} {i:Nat} (cq:listed.size=ops.size) (ax:i<ops.size) (aV:¬listed.getD i false=true):
 (List.range ops.size).countP (fun k=>!(listed.setIfInBounds i true).getD k false) < (List.range ops.size).countP (fun k=>!listed.getD k false):=by
 have aA:i<listed.size:=by rw [cq];exact ax
 refine DG (fun k=>!listed.getD k false) (fun k=>!(listed.setIfInBounds i true).getD k false) (List.range ops.size) (fun k _ aB=>?_) ⟨i,aqQ.2 ax,?_,?_⟩
 . simp only [aqh] at aB ⊢;cases az:listed.getD k false with
   | false=>rfl
   | true=>
     have:=(fy (k:=k) aA).2 (.inr az);rw [aB] at this;cases this
 . cases az:listed.getD i false with
   | false=>rfl
   | true=>exact absurd az aV
 . have:=(fy (k:=i) aA).2 (.inl rfl);simp [this]
theorem QR (ig:∀i o,ops[i]? =some o->mq i o=true):∀(fuel t:Nat) (listed:Array Bool),listed.size=ops.size->(List.range ops.size).countP (fun i=>!listed.getD i false)<=fuel->
 (Region.linearise.go .any ops fuel t listed []).Nodup/\(∀k ∈ Region.linearise.go .any ops fuel t listed [],k<ops.size/\¬listed.getD k false=true)/\
  ∀k,k<ops.size->listed.getD k false=true\/k ∈ Region.linearise.go .any ops fuel t listed []
 | 0,t,listed,cq,ao=>by
   have e:Region.linearise.go .any ops 0 t listed []=[]:=rfl;rw [e];refine ⟨List.nodup_nil,fun k aB=>by simp at aB,fun k aB=>.inl ?_⟩;have aY:(List.range ops.size).countP (fun i=>!listed.getD i false)=0:=by omega
   rw [List.countP_eq_zero] at aY;simpa using aY k (aqQ.2 aB)
 | fuel+1,t,listed,cq,ao=>by
   rw [go_succ];cases aC:w1 ops t listed with
   | none=>
     simp only;exact ⟨List.nodup_nil,fun k aB=>by simp at aB,fun k aB=>.inl (ze ig cq (UH aC) k aB)⟩
   | some i=>
     simp only;obtain ⟨i1,i2⟩:=w2 cq (Lu aC);have aA:i<listed.size:=by rw [cq];exact i1
     have:=count_set cq i1 i2;obtain ⟨g1,g2,g3⟩:=QR ig fuel (t / (Region.ready .any ops listed).length) (listed.setIfInBounds i true) (by simp [cq]) (by omega);refine ⟨aro.2 ⟨fun hm=>(g2 i hm).2 ((fy aA).2 (.inl rfl)),g1⟩,fun k aB=>?_,fun k aB=>?_⟩
     . rcases apJ.1 aB with rfl | aB
       . exact ⟨i1,i2⟩
       . exact ⟨(g2 k aB).1,fun h=>(g2 k aB).2 ((fy aA).2 (.inr h))⟩
     . rcases g3 k aB with h | h
       . rcases (fy aA).1 h with rfl | h
         . exact .inr (by simp)
         . exact .inl h
       . exact .inr (by simp [h])
theorem Gx {o:Oper} {os:List Oper} {r:bC} {h:ae} {es:List eK} {cZ:bC} {av:ae} (he:(fm P aq ops (o::os)).run call r h=.ok es cZ av):
 ∃v aa hl,(cE P aq ops o).run call r h=.val v aa/\(fm P aq ops os).run call ((ft o.dst).run r v) aa=.ok hl cZ av/\es=⟨r,h,v⟩::hl:=by
 simp only [fm,Ct] at he;cases aa:(cE P aq ops o).run call r h with
 | fail=>rw [aa] at he;cases he
 | cK _ _=>rw [aa] at he;simp only at he;cases hm:lM o.op<;>rw [hm] at he<;>cases he
 | val v a'=>
   rw [aa] at he;simp only at he;cases ad:(fm P aq ops os).run call ((ft o.dst).run r v) a' with
   | fail=>rw [ad] at he;cases he
   | cK _ _ _ _ _=>rw [ad] at he;cases he
   | ok hl bM aJ=>
     rw [ad] at he;simp only [qA.ok.injEq] at he;obtain ⟨rfl,rfl,rfl⟩:=he;exact ⟨v,a',hl,rfl,ad,rfl⟩
theorem Gy {o:Oper} {os:List Oper} {r:bC} {h aa:ae} {v:V} {hl:List eK} {cZ:bC} {av:ae} (aY:(cE P aq ops o).run call r h=.val v aa) (ad:(fm P aq ops os).run call ((ft o.dst).run r v) aa=.ok hl cZ av):
 (fm P aq ops (o::os)).run call r h=.ok (⟨r,h,v⟩::hl) cZ av:=by
 simp only [fm,Ct,aY,ad]
theorem LQ:∀(eX hr:List Oper) {r:bC} {h:ae} {es:List eK} {cZ:bC} {av:ae},(fm P aq ops (eX++hr)).run call r h=.ok es cZ av->
 ∃hl bM aa qR,(fm P aq ops eX).run call r h=.ok hl bM aa/\(fm P aq ops hr).run call bM aa=.ok qR cZ av/\es=hl++qR
 | [],hr,r,h,es,cZ,av,he=>⟨[],r,h,es,rfl,he,rfl⟩
 | o::os,hr,r,h,es,cZ,av,he=>by obtain ⟨v,aa,hl,ak,al,rfl⟩:=Gx he;obtain ⟨Iq,bM,aJ,qR,g1,g2,rfl⟩:=LQ os hr al;exact ⟨⟨r,h,v⟩::Iq,bM,aJ,qR,Gy ak g1,g2,rfl⟩
theorem LR:∀(eX hr:List Oper) {r bM cZ:bC} {h aa av:ae} {hl qR:List eK},(fm P aq ops eX).run call r h=.ok hl bM aa->(fm P aq ops hr).run call bM aa=.ok qR cZ av->
 (fm P aq ops (eX++hr)).run call r h=.ok (hl++qR) cZ av
 | [],hr,r,bM,cZ,h,aa,av,hl,qR,he,ad=>by simp only [fm,qA.ok.injEq] at he;obtain ⟨rfl,rfl,rfl⟩:=he;exact ad
 | o::os,hr,r,bM,cZ,h,aa,av,hl,qR,he,ad=>by obtain ⟨v,aJ,Iq,ak,al,rfl⟩:=Gx he;exact Gy ak (LR os hr al ad)
theorem B9:∀(a b:List Nat),hc ops (a++b)=hc ops a++hc ops b
 | [],b=>rfl
 | x::xs,b=>by simp [hc,B9 xs b]
theorem Uy:∀(l:List Oper),(∀o ∈ l,eN P o.op=false/\looks o.op=false)->∀{r cZ:bC} {h av:ae} {es:List eK},(fm P aq ops l).run call r h=.ok es cZ av->
 av=h/\∀H:ae,∃fr,(fm P aq ops l).run call r H=.ok fr cZ H
 | [],_,r,cZ,h,av,es,he=>by simp only [fm,qA.ok.injEq] at he;obtain ⟨rfl,rfl,rfl⟩:=he;exact ⟨rfl,fun H=>⟨[],rfl⟩⟩
 | o::os,az,r,cZ,h,av,es,he=>by obtain ⟨v,aa,hl,ak,al,rfl⟩:=Gx he;obtain ⟨aK,aS⟩:=az o (by simp);obtain ⟨d1,d2⟩:=vv aK ak;subst d1;obtain ⟨g1,g2⟩:=Uy os (fun b2 gY=>az b2 (by simp [gY])) al;refine ⟨g1,fun H=>?_⟩;obtain ⟨fr,g3⟩:=g2 H;exact ⟨_,Gy (d2 aS H) g3⟩
theorem BD {o:Oper} {A:xo} (h:lI o=some A):o.op=.insert A.t A.m A.k A.x/\o.dst=none/\o.guard=none:=by
 unfold lI at h
 split at h
 case h_2=>cases h
 rename_i t m k x aU
 split at h
 case h_2=>cases h
 rename_i aH
 split at h
 case h_2=>cases h
 rename_i aG;cases h;exact ⟨aU,aH,aG⟩
theorem Uq {e:dD} {k v:V} {c:Nat}:∀{es:List b3},(∀m ∈ es,e.run k m.k=some false)->kP e k v c es=some (es++[⟨k,v,c⟩],true)
 | [],_=>rfl
 | m::ms,h=>by simp only [kP,h m (by simp),apA,Uq (es:=ms) fun dj mU=>h dj (by simp [mU]),apS]
theorem aaF {o:Oper} {A:xo} (yo:BJ P A.t=true) (jF:lI o=some A) {r:bC} {H1 cS:ae} {v:V} (he:(cE P aq ops o).run call r H1=.val v cS) {b:aL} (ah:(bS A.m).run (dk r (bY ops o))=.map b):
 ∀(H:ae) es c,H.get b=.mp es c->(∀m ∈ es,(uz P A.t).run ((bS A.k).run (dk r (bY ops o))) m.k=some false)->
  (cE P aq ops o).run call r H=.val .bad (H.set b (.mp (es++[⟨(bS A.k).run (dk r (bY ops o)),(bS A.x).run (dk r (bY ops o)),c⟩]) (c+1))):=by
 obtain ⟨aU,aH,aG⟩:=BD jF;obtain ⟨aa,ad⟩:=ko he;have key:cE P aq ops o=⟨iI none (e' P o) (bY ops o)⟩:=by unfold cE;rw [show (eI aq o.dst&&iD (bY ops o))=true from by rw [aa,ad];rfl,aG];rfl
 rw [key] at he ⊢;simp only [iI] at he ⊢;have vM:∀H,(e' P o).run call (dk r (bY ops o)) H=gF .bad ((pa P A.t).run H (.map b) ((bS A.k).run (dk r (bY ops o))) ((bS A.x).run (dk r (bY ops o)))):=by intro H;unfold e';rw [aU];simp only [ah]
 rw [vM] at he;have aeX:pa P A.t=⟨jT (uz P A.t)⟩:=by
  cases aZ:(pa P A.t).run H1 (.map b) ((bS A.k).run (dk r (bY ops o))) ((bS A.x).run (dk r (bY ops o))) with
  | none=>rw [aZ] at he;cases he
  | some aJ=>
    unfold pa at aZ ⊢;unfold uz;cases aE:ba P A.t with
    | none=>rw [aE] at aZ;cases aZ
    | some aO=>
      rw [aE] at aZ;simp only at aZ ⊢;cases bV:aO.bj<;>rw [bV] at aZ<;>simp only at aZ ⊢<;>try (cases aZ;done)
      rename_i da kp;cases mS:ba P da with
      | none=>rw [mS] at aZ;cases aZ
      | some fY=>
        rw [mS] at aZ;simp only at aZ ⊢;cases av:kG fY.bj with
        | false=>
          unfold BJ at yo;rw [aE] at yo;simp only [bV,mS,av] at yo;cases yo
        | true=>rfl
 intro H es c l6 aB;rw [vM,aeX];simp only [jT,l6,b1.hx,Uq aB,gF,apu]
theorem afv {o:Oper} {r:bC} {b:aL} {m:b3} (h:ux ops r b o=some m):∃A,lI o=some A/\(bS A.m).run (dk r (bY ops o))=.map b/\m.k=(bS A.k).run (dk r (bY ops o))/\m.v=(bS A.x).run (dk r (bY ops o)):=by
 unfold ux at h;cases bt:lI o with
 | none=>rw [bt] at h;cases h
 | some A=>
   rw [bt] at h;simp only at h;cases hm:(bS A.m).run (dk r (bY ops o))<;>rw [hm] at h<;>simp only at h<;>try (cases h;done)
   obtain ⟨ao,aa⟩:=ev h;have:=aL.l5 ao;subst this;cases aa;exact ⟨A,rfl,hm,rfl,rfl⟩
def kY (ops:Array Oper) (r:bC) (b:aL) (i:Nat) (m:b3):Prop:=∃o,ops[i]? =some o/\ux ops r b o=some m
theorem kY.H6 {r:bC} {b:aL} {i:Nat} {m dj:b3} (h:kY ops r b i m) (ab:kY ops r b i dj):m=dj:=by obtain ⟨o,aa,ad⟩:=h;obtain ⟨b2,aJ,bu⟩:=ab;rw [aa] at aJ;cases aJ;rw [ad] at bu;cases bu;rfl
theorem E9 {r:bC} {b:aL}:∀{is:List Nat} {ms:List b3},wz ops r b is=some ms->pc (kY ops r b) is ms
 | [],ms,h=>by simp only [wz,aps] at h;subst h;exact .nil
 | i::is,ms,h=>by
   simp only [wz] at h;cases aU:ops[i]? with
   | none=>rw [aU] at h;cases h
   | some o=>
     rw [aU] at h;simp only at h;cases hm:ux ops r b o with
     | none=>rw [hm] at h;cases h
     | some m=>
       rw [hm] at h;simp only at h;cases aZ:wz ops r b is with
       | none=>rw [aZ] at h;cases h
       | some aoC=>
         rw [aZ] at h;simp only [aps] at h;subst h;exact .cons ⟨o,aU,hm⟩ (E9 aZ)
theorem St {x:Option Bool} (h:isFalse x=true):x=some false:=by
 cases x with
 | none=>cases h
 | some b=>cases b<;>simp_all [isFalse]
theorem Ht {e:dD} {m:b3}:∀{ms:List b3},Dk e m ms=true->∀dj ∈ ms,e.run m.k dj.k=some false/\e.run dj.k m.k=some false
 | [],_,dj,h=>by simp at h
 | x::xs,h,dj,hm=>by
   simp only [Dk,apq] at h;rcases apJ.1 hm with rfl | hm
   . exact ⟨St h.1,St h.2.1⟩
   . exact Ht h.2.2 dj hm
theorem Nd {r:bC} {b:aL} {e:dD}:∀{is:List Nat} {ms:List b3},pc (kY ops r b) is ms->is.Nodup->Ah e ms=true->∀i j m dj,i ∈ is->j ∈ is->i≠j->kY ops r b i m->kY ops r b j dj->e.run m.k dj.k=some false
 | _,_,.nil,_,_,i,_,_,_,ax,_,_,_,_=>by simp at ax
 | _,_,.cons (a:=x) (b:=ea) (KC:=xs) (KD:=ai8) aY aE,aV,bt,i,j,m,dj,ax,bp,oO,hm,mU=>by
   simp only [Ah,apq] at bt;rw [aro] at aV;have Sj:∀k n,k ∈ xs->kY ops r b k n->n ∈ ai8:=by
    intro k n aB ad0;have gen:∀{is:List Nat} {ms:List b3},pc (kY ops r b) is ms->k ∈ is->n ∈ ms:=by
     intro is ms av
     induction av with
     | nil=>intro aB;simp at aB
     | cons aa _ bb=>
       intro aB;rcases apJ.1 aB with rfl | aB
       . rw [ad0.H6 aa];simp
       . exact apZ _ (bb aB)
    exact gen aE aB
   rcases apJ.1 ax with Rz | ax
   . rcases apJ.1 bp with Jj | bp
     . exact absurd (Rz.trans Jj.symm) oO
     . rw [Rz] at hm;rw [hm.H6 aY];exact (Ht bt.1 dj (Sj j dj bp mU)).1
   . rcases apJ.1 bp with Jj | bp
     . rw [Jj] at mU;rw [mU.H6 aY];exact (Ht bt.1 m (Sj i m ax hm)).2
     . exact Nd aE aV.2 bt.2 i j m dj ax bp oO hm mU
theorem Kc {iW:bC} {b:aL} {e:dD} {I:List Nat} (nK:∀i ∈ I,∃o A m,ops[i]? =some o/\lI o=some A/\(BJ P A.t=true/\uz P A.t=e)/\ux ops iW b o=some m/\∃v H1 cS,(cE P aq ops o).run call iW H1=.val v cS)
 (Es:∀i j m dj,i ∈ I->j ∈ I->i≠j->kY ops iW b i m->kY ops iW b j dj->e.run m.k dj.k=some false):
 ∀(τ:List Nat) (done:List Nat) (ds:List b3) (c:Nat) (H:ae),(∀i ∈ τ,i ∈ I)->(∀i ∈ done,i ∈ I)->(done++τ).Nodup->(∀m ∈ ds,∃i ∈ done,∃dj,kY ops iW b i dj/\m.k=dj.k)->H.get b=.mp ds c->
  ∃es ms fD eg,(fm P aq ops (hc ops τ)).run call iW H=.ok es iW eg/\eg.get b=.mp (ds++ms) fD/\(∀k,b≠k->eg.get k=H.get k)/\(∀k,eg.set b k=H.set b k)/\(∀e ∈ es,∀k,b≠k->e.h.get k=H.get k)/\
   pc (fun i (m:b3)=>∃dj,kY ops iW b i dj/\m.k=dj.k/\m.v=dj.v) τ ms
 | [],done,ds,c,H,_,_,_,_,l6=>⟨[],[],c,H,rfl,by rw [aqF];exact l6,fun _ _=>rfl,fun _=>rfl,fun e he=>by simp at he,.nil⟩
 | i::τ,done,ds,c,H,E2,Rm,oP,t',l6=>by
   obtain ⟨o,A,m,aU,jF,⟨yo,vZ⟩,hm,v,H1,cS,cR⟩:=nK i (E2 i (by simp));obtain ⟨iF,Q8,ah,aB,aj⟩:=afv hm;rw [jF] at Q8;cases Q8;have q_:i ∉ done:=fun h=>by rw [arA] at oP;exact oP.2.2 i h i (by simp) rfl
   have hF:=aaF yo jF cR ah H ds c l6 (fun dj mU=>by
    obtain ⟨j,bp,ai1,adE,adZ⟩:=t' dj mU;rw [adZ,vZ,<-aB]
    exact Es i j m ai1 (E2 i (by simp)) (Rm j bp) (fun e=>q_ (e ▸ bp)) ⟨o,aU,hm⟩ adE)
   obtain ⟨_,aH,_⟩:=BD jF;obtain ⟨es,ms,fD,eg,g1,g2,g3,g4,g6,g5⟩:=Kc nK Es τ (done++[i]) (ds++[⟨(bS A.k).run (dk iW (bY ops o)),(bS A.x).run (dk iW (bY ops o)),c⟩]) (c+1)
    (H.set b (.mp (ds++[⟨(bS A.k).run (dk iW (bY ops o)),(bS A.x).run (dk iW (bY ops o)),c⟩]) (c+1))) (fun j bp=>E2 j (by simp [bp]))
    (fun j bp=>by
      rcases aqR.1 bp with h | h
      . exact Rm j h
      . simp only [aqp] at h;subst h;exact E2 j (by simp)) (by simpa using oP)
    (fun dj mU=>by
      rcases aqR.1 mU with h | h
      . obtain ⟨j,bp,r⟩:=t' dj h;exact ⟨j,by simp [bp],r⟩
      . simp only [aqp] at h;subst h
        exact ⟨i,by simp,m,⟨o,aU,hm⟩,aB.symm⟩) (by rw [ae.dV,apz rfl])
   have R5:=Gy (os:=hc ops τ) hF (by rw [aH];exact g1);rw [show o::hc ops τ=hc ops (i::τ) from by simp [hc,aU]] at R5;refine ⟨_,⟨(bS A.k).run (dk iW (bY ops o)),(bS A.x).run (dk iW (bY ops o)),c⟩::ms,fD,eg,R5,by rw [g2,aqc];rfl,fun k aB=>?_,fun k=>?_,fun cC ee k aB=>?_,.cons ⟨m,⟨o,aU,hm⟩,aB.symm,aj.symm⟩ g5⟩
   . rw [g3 k aB,ae.dV,apw aB]
   . rw [g4];unfold ae.set;simp only [T.Us]
   . rcases apJ.1 ee with rfl | ee
     . rfl
     . rw [g6 cC ee k aB,ae.dV,apw aB]
def qG (E:Env):List (V × V)->List MapEntry->Prop
 | [],l=>l=[]
 | p::bn,l=>∃e es,l=e::es/\Rel E p.1 e.key/\Rel E p.2 e.val/\qG E bn es
theorem qG.perm {E:Env} {bn jQ:List (V × V)} (h:bn.Perm jQ):∀{l:List MapEntry},qG E jQ l->∃eS,qG E bn eS/\eS.Perm l:=by
 induction h with
 | nil=>intro l h;exact ⟨l,h,.refl _⟩
 | cons x _ bb=>
   intro l h;obtain ⟨e,es,rfl,aa,ad,aJ⟩:=h;obtain ⟨eS,g1,g2⟩:=bb aJ;exact ⟨e::eS,⟨e,eS,rfl,aa,ad,g1⟩,g2.cons e⟩
 | swap x y u5=>
   intro l h;obtain ⟨e,es,rfl,aa,ad,cC,fr,rfl,aJ,bu,cV⟩:=h;exact ⟨cC::e::fr,⟨cC,_,rfl,aJ,bu,e,fr,rfl,aa,ad,cV⟩,List.Perm.swap _ _ _⟩
 | trans _ _ afh afi=>
   intro l h;obtain ⟨eX,g1,g2⟩:=afi h;obtain ⟨hr,g3,g4⟩:=afh g1;exact ⟨hr,g3,g4.trans g2⟩
theorem qG.TJ {E:Env}:∀{ms:List b3} {l:List MapEntry},dm E ms l->qG E (ms.map fun m=>(m.k,m.v)) l
 | [],l,h=>h
 | m::ms,l,h=>by obtain ⟨e,es,rfl,aa,ad,_,bu⟩:=h;exact ⟨e,es,rfl,aa,ad,qG.TJ bu⟩
theorem ix.TK {E:Env}:∀{ms:List b3} {l:List MapEntry},qG E (ms.map fun m=>(m.k,m.v)) l->ix E ms l
 | [],l,h=>h
 | m::ms,l,h=>by obtain ⟨e,es,rfl,aa,ad,bu⟩:=h;exact ⟨e,es,rfl,aa,ad,ix.TK bu⟩
theorem a8.forget {ay:Fr} {E:Env} {h:ae} {w:World} (s:a8 ay E h w) {b:aL} {p:jb} {es ms:List b3} {c:Nat} (aG:h.get b=.mp es c) (af:E b=some p) (hp:(ms.map fun m=>(m.k,m.v)).Perm (es.map fun m=>(m.k,m.v))):
 a8 ay E (h.set b (.ht ms)) w:=by
 have ah:=s.at af;rw [aG] at ah;obtain ⟨p',a,gZ,cD,a',hm⟩:=ah;rw [af] at gZ;cases gZ;obtain ⟨l,g1,g2⟩:=qG.perm hp (qG.TJ hm);exact s.set (by rw [aG];rfl) af cD (apv _) (fun _ _=>rfl) rfl rfl rfl (fun _ _ _ e=>by cases e) ⟨p,a,c,l,af,cD,a',ix.TK g1,g2⟩
theorem Sp:∀(l:List Oper),(∀o ∈ l,o.dst=none)->∀{r cZ:bC} {h av:ae} {es:List eK},(fm P aq ops l).run call r h=.ok es cZ av->∀o ∈ l,∃v H1 cS,(cE P aq ops o).run call r H1=.val v cS
 | [],_,_,_,_,_,_,_,o,aU=>by simp at aU
 | x::xs,aH,r,cZ,h,av,es,he,o,aU=>by
   obtain ⟨v,aa,hl,ak,al,rfl⟩:=Gx he;rcases apJ.1 aU with rfl | aU
   . exact ⟨v,h,aa,ak⟩
   . rw [aH x (by simp)] at al;exact Sp xs (fun b2 gY=>aH b2 (by simp [gY])) al o aU
theorem aiC {t:TypeId} {H H1:ae} {c:aL} {off:Nat} (h:H.get c=H1.get c):(p_ P t).run H (.ptr c off)=(p_ P t).run H1 (.ptr c off):=by
 unfold p_;cases ba P t with
 | none=>rfl
 | some aO=>
   simp only;cases aO.agg with
   | true=>simp only [apu,na,V.iQ,h]
   | false=>
     simp only [apA];cases Nat.beq aO.size 1 with
     | true=>simp only [apu,nb,V.iQ,h]
     | false=>rfl
theorem aaH {o:Oper} {t:TypeId} {x:Operand} (aU:o.op=.load t x) (aG:o.guard=none) {r:bC} {H1 ab:ae} {v:V} (he:(cE P aq ops o).run call r H1=.val v ab) {c:aL} {off:Nat} (aj:(bS x).run (dk r (bY ops o))=.ptr c off)
 (H:ae) (l6:H.get c=H1.get c):(cE P aq ops o).run call r H=.val v H:=by
 obtain ⟨aa,ad⟩:=ko he;have key:cE P aq ops o=⟨iI none (e' P o) (bY ops o)⟩:=by unfold cE;rw [show (eI aq o.dst&&iD (bY ops o))=true from by rw [aa,ad];rfl,aG];rfl
 rw [key] at he ⊢;simp only [iI] at he ⊢;have vM:∀H,(e' P o).run call (dk r (bY ops o)) H=a7.of H ((p_ P t).run H (.ptr c off)):=by intro H;unfold e';rw [aU];simp only [aj]
 rw [vM] at he ⊢;rw [aiC l6];exact a7.wS he H
theorem S' {es:List eK} {h:ae} {b:aL}:∀{is:List Nat} {p:Nat},BV P ops es h b call aq is p=true->∀q i o t x,is[q]? =some i->ops[i]? =some o->o.op=.load t x->
 ∃e c off ab,es[p+q]? =some e/\(bS x).run (dk e.r (bY ops o))=.ptr c off/\c≠b/\o.guard=none/\(cE P aq ops o).run call e.r h=.val e.v ab
 | [],_,_,q,i,o,t,x,h,_,_=>by simp at h
 | j::afF,p,aA,q,i,o,t,x,az,aU,ma=>by
   simp only [BV] at aA;cases q with
   | succ q=>
     cases bp:ops[j]? with
     | none=>rw [bp] at aA;cases aA
     | some aoR=>
       rw [bp] at aA;simp only [apq] at aA;have:=S' aA.2 q i o t x (by simpa using az) aU ma;rw [show p + (q+1)=p+1+q from by omega];exact this
   | zero=>
     simp only [apK,aps] at az;subst az;rw [aU] at aA;simp only [apq] at aA;have aa:=aA.1;rw [ma] at aa;simp only at aa;rw [aqC];cases he:es[p]? with
     | none=>rw [he] at aa;cases aa
     | some e=>
       rw [he] at aa;simp only at aa;cases aj:(bS x).run (dk e.r (bY ops o))<;>rw [aj] at aa<;>simp only at aa<;>try (cases aa;done)
       rename_i c off;simp only [apq,aqh] at aa;cases aG:o.guard with
       | some _=>rw [aG] at aa;cases aa.2
       | none=>
         rw [aG] at aa;simp only at aa;have ad:=aa.2;cases aC:(cE P aq ops o).run call e.r h with
         | fail=>rw [aC] at ad;cases ad
         | cK _ _=>rw [aC] at ad;cases ad
         | val v ab=>
           rw [aC] at ad;have bs:=Im ad;exact ⟨e,c,off,ab,rfl,aj,(fun e=>by rw [e,aL.AH] at aa;cases aa.1),rfl,by rw [aC,bs]⟩
theorem yG {k:Nat}:∀{l:List Nat} {p:Nat},l.Nodup->l[p]? =some k->l.idxOf k=p
 | [],_,_,h=>by simp at h
 | x::xs,p,aV,h=>by
   rw [aro] at aV;cases p with
   | zero=>
     simp only [apK,aps] at h;subst h;simp
   | succ p=>
     have aj:xs[p]? =some k:=by simpa using h
     have c4:x≠k:=fun e=>aV.1 (e ▸ apY aj);rw [List.idxOf_cons];simp only [aqZ,c4,apA,show (x == k)=false from by simpa using c4];rw [yG aV.2 aj]
def mj (ops:Array Oper) (i:Nat):Bool:=
 match ops[i]? with
 | some o=>la o
 | none=>false
theorem Fa {o:Oper} {A:xo} (h:lI o=some A):la o=true/\eN P o.op=true/\gh o=false:=by obtain ⟨aU,_,_⟩:=BD h;refine ⟨by unfold la;rw [aU],by rw [aU];rfl,by unfold gh;rw [aU]⟩
theorem aix {aD:List Nat} {b_ di:Nat} {t:TypeId} (av:BT P ops aD b_ di t=true):∀i o,ops[i]? =some o->∃cN,(eE [] ops.toList)[i]? =some cN/\mq i o=true/\
 (∀k ok,ops[k]? =some ok->∃mk,(eE [] ops.toList)[k]? =some mk/\o4 i cN (bY ops o) o.dst k mk ok (Nat.blt (posOf aD k) (posOf aD i))=true)/\
 (posOf aD i<b_->la o=false/\dY P o=false/\(looks o.op=true->eN P o.op=false->∃t x,o.op=.load t x))/\
 (¬posOf aD i<b_->posOf aD i<di->∃A,lI o=some A/\A.t=t)/\
 (¬posOf aD i<b_->¬posOf aD i<di->eN P o.op=false/\looks o.op=false):=by
 unfold BT at av;simp only [apq] at av;replace av:=av.2;intro i o ax;obtain ⟨cN,aa,ad⟩:=qw av i o (by simpa using ax);simp only [apW,apq] at ad;obtain ⟨⟨aJ,bu⟩,cV⟩:=ad;refine ⟨cN,aa,aJ,fun k ok aB=>?_,fun aR=>?_,fun ie aR=>?_,fun ie adL=>?_⟩
 . obtain ⟨mk,b7,cj⟩:=qw bu k ok (by simpa using aB);simp only [apW] at cj;exact ⟨mk,b7,cj⟩
 . rw [show Nat.blt (posOf aD i) b_=true from by rw [apR];exact aR] at cV;simp only [apu,apq,aqh,aqA] at cV;refine ⟨cV.1.1,cV.1.2,fun aA he=>?_⟩;rcases cV.2 with (h | h) | h
   . rw [aA] at h;cases h
   . rw [he] at h;cases h
   . cases ma:o.op<;>rw [ma] at h<;>simp only at h<;>first
      | (cases h;done)
      | exact ⟨_,_,rfl⟩
 . rw [show Nat.blt (posOf aD i) b_=false from by rw [<-ap2,apR];exact ie,show Nat.blt (posOf aD i) di=true from by rw [apR];exact aR] at cV;simp only [apu,apA] at cV;cases bt:lI o with
   | none=>rw [bt] at cV;cases cV
   | some A=>rw [bt] at cV;exact ⟨A,rfl,aqg cV⟩
 . rw [show Nat.blt (posOf aD i) b_=false from by rw [<-ap2,apR];exact ie,show Nat.blt (posOf aD i) di=false from by rw [<-ap2,apR];exact adL] at cV;simp only [apA,apq,aqh] at cV;exact cV
theorem aiy {order:List Nat} {es:List eK} {b_:Nat} {b:aL} {iW:bC} {A:xo} (h:Fk ops order es b_=some (b,iW,A)):
 ∃e i o,es[b_]? =some e/\order[b_]? =some i/\ops[i]? =some o/\lI o=some A/\e.r=iW:=by
 unfold Fk at h;cases he:es[b_]? with
 | none=>rw [he] at h;cases h
 | some e=>
   rw [he] at h;simp only at h;cases ax:order[b_]? with
   | none=>rw [ax] at h;cases h
   | some i=>
     rw [ax] at h;simp only at h;cases aU:ops[i]? with
     | none=>rw [aU] at h;cases h
     | some o=>
       rw [aU] at h;simp only at h;cases bt:lI o with
       | none=>rw [bt] at h;cases h
       | some iF=>
         rw [bt] at h;simp only at h;cases hm:(bS iF.m).run (dk e.r (bY ops o))<;>rw [hm] at h<;>simp only at h<;>try (cases h;done)
         simp only [aps,aqD] at h;obtain ⟨_,ad,rfl⟩:=h;exact ⟨e,i,o,rfl,rfl,aU,bt,ad⟩
theorem Ti {r:bC} {b:aL} {f:Nat->V × V} (av:∀i m,kY ops r b i m->f i=(m.k,m.v)):∀{is:List Nat} {ms:List b3},pc (fun i (m:b3)=>∃dj,kY ops r b i dj/\m.k=dj.k/\m.v=dj.v) is ms->ms.map (fun m=>(m.k,m.v))=is.map f
 | _,_,.nil=>rfl
 | _,_,.cons (a:=i) (b:=m) aY aE=>by obtain ⟨dj,aa,ad,aJ⟩:=aY;simp only [aqu,Ti av aE,av i dj aa,ad,aJ]
theorem y' {n:Nat} {order aD:List Nat} (hp:lp n order aD=true) {p i:Nat} (h:order[p]? =some i):posOf aD i=p/\i<n:=by unfold lp at hp;simp only [apq,apV] at hp;obtain ⟨_,ad,_,bu⟩:=hp;have:=uN bu h;rw [apW] at this;refine ⟨by unfold posOf;rw [this];rfl,?_⟩;have:=(apN.1 this).1;omega
theorem ajq {l:List Nat} {f:Nat->Nat} (h:∀p i,l[p]? =some i->f i=p):l.Nodup:=by rw [List.Nodup,List.pairwise_iff_getElem];intro i j ax bp oO he;have aa:=h i _ (apr ax);have ad:=h j _ (apr bp);rw [he,ad] at aa;omega
theorem pc.left {α β:Type} {R:α->β->Prop}:∀{eX:List α} {hr:List β},pc R eX hr->∀x ∈ eX,∃y ∈ hr,R x y
 | _,_,.nil,x,h=>by simp at h
 | _,_,.cons aY aE,x,h=>by
   rcases apJ.1 h with rfl | h
   . exact ⟨_,by simp,aY⟩
   . obtain ⟨y,aa,ad⟩:=aE.left x h;exact ⟨y,by simp [aa],ad⟩
theorem afB {o:Oper} (h:la o=true):eN P o.op=true/\gh o=false:=by
 unfold la at h;unfold gh;cases aU:o.op<;>rw [aU] at h<;>simp only at h<;>first
  | (cases h;done)
  | exact ⟨rfl,rfl⟩
theorem amC {pre σ post:List Nat} (oP:(pre++(σ++post)).Nodup) (k q:Nat):(pre[q]? =some k->(pre++(σ++post)).idxOf k=q)/\(σ[q]? =some k->(pre++(σ++post)).idxOf k=pre.length+q)/\(post[q]? =some k->(pre++(σ++post)).idxOf k=pre.length+σ.length+q):=by
 refine ⟨fun h=>yG oP ?_,fun h=>yG oP ?_,fun h=>yG oP ?_⟩
 . have:=(apN.1 h).1;rw [apM this];exact h
 . have:=(apN.1 h).1;rw [apO (by omega),Nat.add_sub_cancel_left,apM this];exact h
 . rw [apO (by omega),apO (by omega)];rw [show pre.length+σ.length+q-pre.length-σ.length=q from by omega];exact h
theorem aiz {rd:Option Nat} {D:List Deferred} {ay:Fr} {calls:Nat->dO} {es:List eK} {bh:bC} {aY:ae} {cZ:bC} {av:ae} {en order aD:List Nat} (bE:ec P) (cb:∀i,gq P (calls i)) (dC:∀i,gJ P (calls i))
 (C:Cert P aq ops calls es bh aY cZ av en order aD ops.size ops.size true) {ga:Env} {Q:Exit->Act->World->Prop}
 (cy:∀ar bl w',ga.le ar->RegRel0 ar aq cZ bl->bl.defers=D->a8 ay ar av w'->Q .normal bl w') {tH:List Nat}
 (gy:∀i k,mj ops i=true->mj ops k=true->posOf aD k<posOf aD i->∀a b,tH=a++i::b->k ∈ a):
 ∀(fuel t:Nat) (listed:Array Bool) (done:List Nat) (a:Act) (w:World),tH=done++Region.linearise.go .any ops fuel t listed []->(∀k,k<ops.size->(listed.getD k false=true↔k ∈ done))->
  (List.range ops.size).countP (fun i=>!listed.getD i false)<=fuel->qz P ay aq ops es bh av en aD ga ops.size D listed a w->wpOpsIn (b4 rd) 0 P ops Q (Region.linearise.go .any ops fuel t listed []) a w:=by
 have ig:∀i o,ops[i]? =some o->mq i o=true:=fun i o h=>by obtain ⟨_,_,ad,_⟩:=C.mO i o h;exact ad
 have fin:∀(listed:Array Bool) (a:Act) (w:World),(∀k,k<ops.size->listed.getD k false=true)->qz P ay aq ops es bh av en aD ga ops.size D listed a w->Q .normal a w:=by intro listed a w cW I;obtain ⟨ar,g1,g2,g3,g4⟩:=PJ C (apv _) I fun k aB _=>cW k aB;exact cy ar a w g1 g2 g3 g4
 intro fuel
 induction fuel with
 | zero=>
   intro t listed done a w su Jp ao I;have aY:(List.range ops.size).countP (fun i=>!listed.getD i false)=0:=by omega
   rw [List.countP_eq_zero] at aY;exact fin listed a w (fun k aB=>by simpa using aY k (aqQ.2 aB)) I
 | succ fuel bb=>
   intro t listed done a w su Jp ao I;rw [go_succ] at su ⊢;cases aC:w1 ops t listed with
   | none=>exact fin listed a w (fun k aB=>ze ig I.sT (UH aC) k aB) I
   | some i=>
     rw [aC] at su;simp only at su ⊢;obtain ⟨i1,i2⟩:=w2 I.sT (Lu aC);have aA:i<listed.size:=by rw [I.sT];exact i1
     have aob:=count_set I.sT i1 i2;rw [wpOpsIn_cons];refine PT bE cb dC C I (Lu aC) (C.h4 i i1).1 (fun _ o k ok cv vY EJ adY aR=>?_) (fun bl w' GY=>bb _ _ (done++[i]) bl w' (by rw [aqc];exact su) (fun k aB=>?_) (by omega) GY) (fun _ _ _ _ _ _ _ h=>absurd h (aqM _))
     . have aB:k<ops.size:=(apt.1 EJ).1;exact (Jp k aB).2 (gy i k (by unfold mj;rw [cv];exact vY) (by unfold mj;rw [EJ];exact adY) aR _ _ su)
     . rw [fy aA,Jp k aB,aqR,aqp];exact Or.comm
def Ij (ops:Array Oper) (r:bC) (b:aL) (i:Nat):V × V:=
 match ops[i]? with
 | some o=>(match ux ops r b o with
   | some m=>(m.k,m.v)
   | none=>(.bad,.bad))
 | none=>(.bad,.bad)
theorem P' {r:bC} {b:aL} {i:Nat} {m:b3} (h:kY ops r b i m):Ij ops r b i=(m.k,m.v):=by obtain ⟨o,aa,ad⟩:=h;unfold Ij;rw [aa];simp only [ad]
theorem Tj {r:bC} {b:aL}:∀{is:List Nat} {ms:List b3},pc (kY ops r b) is ms->ms.map (fun m=>(m.k,m.v))=is.map (Ij ops r b)
 | _,_,.nil=>rfl
 | _,_,.cons aY aE=>by simp only [aqu,Tj aE,P' aY]
theorem aiA {rd:Option Nat} {ay:Fr} {E:Env} {h:ae} {w:World} {id:Nat} (cJ:P.follows .mixedOrders=true) (bE:ec P) (cb:gq P call) (dC:gJ P call) {r:bC} {a:Act} {order aD:List Nat} {b_ di:Nat} (hp:lp ops.size order aD=true)
 {Q:Exit->Act->World->Prop} (af:nA ay E aq (Q .normal) Q (KA P aq ops order aD b_ di (fm P aq ops (hc ops order)) call r h)) (k:e8 E aq r a) (s:a8 ay E h w):(Code.region id ops true).wpIn (b4 rd) 0 P Q a w:=by
 unfold KA at af;cases cR:(fm P aq ops (hc ops order)).run call r h with
 | fail=>rw [cR] at af;exact af.elim
 | cK _ _ _ _ _=>rw [cR] at af;exact af.elim
 | ok es et a'=>
 rw [cR] at af;simp only at af;cases sC:Fk ops order es b_ with
 | none=>rw [sC] at af;exact af.elim
 | some x=>
 obtain ⟨b,iW,A⟩:=x;rw [sC] at af;simp only at af;cases oL:(b' es a' b_).get b<;>rw [oL] at af<;>try (exact False.elim af)
 rename_i Ip pw;cases Ip with
 | cons _ _=>exact False.elim af
 | nil=>
 simp only at af;cases yp:wz ops iW b ((order.drop b_).take (di-b_)) with
 | none=>rw [yp] at af;exact af.elim
 | some ms=>
 rw [yp] at af;simp only at af;cases ao:(BT P ops aD b_ di A.t&&(Ah (uz P A.t) ms&&(BV P ops es (b' es a' b_) b call aq (order.take b_) 0&&AJ ((bS A.m).run et) (.map b)))) with
 | false=>rw [ao] at af;exact af.elim
 | true=>
 rw [ao] at af;simp only [apu] at af;simp only [apq] at ao;obtain ⟨uc,Es,ep,sD⟩:=ao;have sD:=Im sD;obtain ⟨oQ,Uc,aoT⟩:=T6 hp;have JA:order.Nodup:=ajq fun p i h=>(y' hp h).1;obtain ⟨dw,i0,gE,I2,vW,aeh,AS,adH⟩:=aiy sC;obtain ⟨akP,-,-,-⟩:=uZ cR;have hlen:es.length=ops.size:=by rw [akP,qb,oQ]
 have iM:b_<ops.size:=by rw [<-oQ];exact (apN.1 vW).1
 have mO:=aix uc;generalize oR:order.take b_=pre at ep;generalize vY:(order.drop b_).take (di-b_)=ins at yp;generalize RX:(order.drop b_).drop (di-b_)=post;have pU:order=pre++(ins++post):=by rw [<-oR,<-vY,<-RX,aq2,aq2]
 have yu:pre.length=b_:=by rw [<-oR,ap4];omega
 have aon:b_<di:=by
  obtain ⟨gg,_⟩:=y' hp vW;rcases aqI b_ di with h | h
  . exact h
  . exfalso;obtain ⟨_,_,_,_,_,_,f3⟩:=mO i0 gE aeh;obtain ⟨aj,_⟩:=f3 (by omega) (by omega);rw [(Fa (P:=P) AS).2.1] at aj;cases aj
 have adW:ins.length=di-b_\/post=[]:=by
  rcases aqI (di-b_) (order.drop b_).length with h | h
  . left;rw [<-vY,ap4];omega
  . right;rw [<-RX];exact aqv h
 have HE:∀q i,pre[q]? =some i->posOf aD i=q/\i<ops.size/\q<b_:=by intro q i h;have az:=(apN.1 h).1;obtain ⟨aa,ad⟩:=y' hp (p:=q) (i:=i) (by rw [pU,apM az];exact h);exact ⟨aa,ad,by omega⟩
 have HC:∀q i,ins[q]? =some i->posOf aD i=b_+q/\i<ops.size/\b_+q<di:=by
  intro q i h;have az:=(apN.1 h).1;obtain ⟨aa,ad⟩:=y' hp (p:=b_+q) (i:=i) (by rw [pU,apO (by omega),yu,Nat.add_sub_cancel_left,apM az];exact h);refine ⟨aa,ad,?_⟩;have:ins.length<=di-b_:=by rw [<-vY,ap4];omega
  omega
 have HD:∀q i,post[q]? =some i->posOf aD i=b_+ins.length+q/\i<ops.size/\ins.length=di-b_:=by
  intro q i h;have aA:ins.length=di-b_:=by
   rcases adW with ab | ab
   . exact ab
   . rw [ab] at h;simp at h
  obtain ⟨aa,ad⟩:=y' hp (p:=b_+ins.length+q) (i:=i) (by rw [pU,apO (by omega),apO (by omega),yu,show b_+ins.length+q-b_-ins.length=q from by omega];exact h);exact ⟨aa,ad,aA⟩
 have VR:∀i,i<ops.size->(∃q:Nat,pre[q]? =some i)\/(∃q:Nat,ins[q]? =some i)\/∃q:Nat,post[q]? =some i:=by
  intro i ax;have hm:i ∈ order:=apY (Uc i ax).2;rw [pU,aqR,aqR] at hm;rcases hm with h | h | h
  . exact .inl (ap8.1 h)
  . exact .inr (.inl (ap8.1 h))
  . exact .inr (.inr (ap8.1 h))
 have Lh:∀i o,i ∈ pre->ops[i]? =some o->la o=false/\dY P o=false/\(looks o.op=true->eN P o.op=false->∃t x,o.op=.load t x):=by intro i o ax aU;obtain ⟨q,az⟩:=ap8.1 ax;obtain ⟨aa,ad,aJ⟩:=HE q i az;obtain ⟨_,_,_,_,f1,_,_⟩:=mO i o aU;exact f1 (by omega)
 have BE:∀i,i ∈ ins->∃o iF,ops[i]? =some o/\lI o=some iF/\iF.t=A.t:=by intro i ax;obtain ⟨q,az⟩:=ap8.1 ax;obtain ⟨aa,ad,aJ⟩:=HC q i az;obtain ⟨_,_,_,_,_,f2,_⟩:=mO i _ (apL ad);obtain ⟨iF,g1,g2⟩:=f2 (by omega) (by omega);exact ⟨_,iF,apL ad,g1,g2⟩
 have Cg:∀i o,i ∈ post->ops[i]? =some o->eN P o.op=false/\looks o.op=false:=by intro i o ax aU;obtain ⟨q,az⟩:=ap8.1 ax;obtain ⟨aa,ad,aJ⟩:=HD q i az;obtain ⟨_,_,_,_,_,_,f3⟩:=mO i o aU;exact f3 (by omega) (by omega)
 have Ka:∀i,i<ops.size->(mj ops i=true↔i ∈ ins):=by
  intro i ax;have cv:ops[i]? =some ops[i]:=apL ax;constructor
  . intro h;unfold mj at h;rw [cv] at h;simp only at h;rcases VR i ax with ⟨q,az⟩ | ⟨q,az⟩ | ⟨q,az⟩
    . rw [(Lh i _ (apY az) cv).1] at h;cases h
    . exact apY az
    . have:=(Cg i _ (apY az) cv).1;rw [(afB (P:=P) h).1] at this;cases this
  . intro h;obtain ⟨o,iF,g1,g2,_⟩:=BE i h;unfold mj;rw [g1];exact (Fa (P:=P) g2).1
 have JB:ins.Nodup:=by rw [pU] at JA;exact (arA.1 (arA.1 JA).2.1).1
 have Bq:=cR;rw [pU,B9,B9] at Bq;obtain ⟨hl,bM,aa,abh,wc,RZ,q2⟩:=LQ _ _ Bq;obtain ⟨qR,dc,ad,Iq,lH,aex,aoc⟩:=LQ _ _ RZ;obtain ⟨eX,-,-,-⟩:=uZ wc;rw [qb,yu] at eX;obtain ⟨-,bW,bx,-⟩:=uZ RZ;have Rr:abh[0]? =some dw:=by rw [q2,apO (by omega),eX,aq7] at I2;exact I2
 have aez:bM=iW:=by unfold eb at bx;rw [Rr] at bx;exact bx.symm.trans adH
 have adQ:b' es a' b_=aa:=by unfold b' at bW ⊢;rw [I2];rw [Rr] at bW;exact bW
 subst aez;rw [adQ] at oL ep;have nK:∀i ∈ ins,∃o iF m,ops[i]? =some o/\lI o=some iF/\(BJ P iF.t=true/\uz P iF.t=uz P A.t)/\ux ops bM b o=some m/\∃v H1 cS,(cE P aq ops o).run call bM H1=.val v cS:=by
  intro i ax;obtain ⟨o,iF,g1,g2,g3⟩:=BE i ax;obtain ⟨m,_,b2,g4,g5⟩:=(E9 yp).left i ax;rw [g1] at g4;cases g4;refine ⟨o,iF,m,g1,g2,⟨by rw [g3];unfold BT at uc;rw [apq] at uc;exact uc.1,by rw [g3]⟩,g5,Sp (hc ops ins) (fun ck yr=>?_) lH o ?_⟩
  . obtain ⟨q,az⟩:=ap8.1 yr;have ui:q<ins.length:=by rw [<-qb (ops:=ops)];exact (apN.1 az).1
    obtain ⟨kK,e0,p5,wA,_⟩:=BE _ (ap1 ui);have:=nf (apr ui) p5;rw [az] at this;cases this;exact (BD wA).2.1
  . obtain ⟨q,az⟩:=ap8.1 ax;exact apY (nf az g1)
 have Et:=Nd (E9 yp) JB Es;obtain ⟨anW,aoD,anN,mA,Iy,an1,an2,abZ,_,an3⟩:=Kc nK Et ins [] [] pw aa (fun i ax=>ax) (fun i ax=>by simp at ax) (by simpa using JB) (fun m hm=>by simp at hm) oL;rw [lH] at Iy;simp only [qA.ok.injEq] at Iy;obtain ⟨-,aew,acZ⟩:=Iy;subst aew acZ
 obtain ⟨Jf,aev⟩:=Uy (hc ops post) (fun ck yr=>by
  obtain ⟨q,az⟩:=ap8.1 yr;have ui:q<post.length:=by rw [<-qb (ops:=ops)];exact (apN.1 az).1
  obtain ⟨_,EI,_⟩:=HD q _ (apr ui);have:=nf (apr ui) (apL EI);rw [az] at this;cases this;exact Cg _ _ (ap1 ui) (apL EI)) aex
 subst Jf;refine wpIn_region_draw fun t=>?_;simp only [Region.schedule,cJ,Bool.true_or,ap3];have ig:∀i o,ops[i]? =some o->mq i o=true:=fun i o h=>by obtain ⟨_,_,ad,_⟩:=mO i o h;exact ad
 have dp:∀k,¬(Array.replicate ops.size false).getD k false=true:=by
  intro k;rw [tT,Array.getElem?_replicate]
  split<;>simp
 obtain ⟨s1,s2,lu⟩:=QR (ops:=ops) ig ops.size t (Array.replicate ops.size false) (by simp) (aqo arx (by simp));change wpOpsIn (b4 rd) 0 P ops Q (Region.linearise.go .any ops ops.size t (Array.replicate ops.size false) []) a {w with drawn:=w.drawn+1};generalize su:Region.linearise.go .any ops ops.size t (Array.replicate ops.size false) []=tH at s1 s2 lu;generalize J9:tH.filter (mj ops)=σ;have KJ:∀k,k ∈ σ↔k ∈ ins:=by
  intro k;rw [<-J9,arn];constructor
  . rintro ⟨g1,g2⟩;exact (Ka k (s2 k g1).1).1 g2
  . intro g;obtain ⟨q,az⟩:=ap8.1 g;have aB:=(HC q k az).2.1;refine ⟨?_,(Ka k aB).2 g⟩;rcases lu k aB with h | h
    . exact absurd h (dp k)
    . exact h
 have RQ:σ.Nodup:=by rw [<-J9];exact s1.filter _
 have JM:σ.Perm ins:=(List.perm_ext_iff_of_nodup RQ JB).2 KJ;have Sg:σ.length=ins.length:=JM.length_eq;have lG:(pre++(σ++post)).Perm order:=by rw [pU];exact (JM.append_right post).append_left pre
 have JC:(pre++(σ++post)).Nodup:=lG.nodup_iff.2 JA;have Bf:(pre++(σ++post)).length=ops.size:=by rw [lG.length_eq,oQ]
 have Dr:=amC JC;generalize aep:(List.range ops.size).map (fun k=>(pre++(σ++post)).idxOf k)=kO;have yt:∀k,k<ops.size->posOf kO k=(pre++(σ++post)).idxOf k:=by intro k aB;rw [<-aep];unfold posOf;rw [aqi,List.getElem?_range aB];rfl
 have Cb:∀i,i<ops.size->i ∈ pre->posOf kO i=posOf aD i/\posOf aD i<b_:=by intro i ax hm;obtain ⟨q,az⟩:=ap8.1 hm;obtain ⟨g1,_,g3⟩:=HE q i az;rw [yt i ax,(Dr i q).1 az,g1];exact ⟨rfl,g3⟩
 have Ca:∀i,i<ops.size->i ∈ ins->∃q:Nat,σ[q]? =some i/\posOf kO i=b_+q/\q<ins.length/\b_<=posOf aD i/\posOf aD i<b_+ins.length:=by intro i ax hm;obtain ⟨q,az⟩:=ap8.1 ((KJ i).2 hm);obtain ⟨fj,sF⟩:=ap8.1 hm;obtain ⟨g1,_,g3⟩:=HC fj i sF;have:=(apN.1 az).1;have:=(apN.1 sF).1;exact ⟨q,az,by rw [yt i ax,(Dr i q).2.1 az,yu],by omega,by omega,by omega⟩
 have K':∀i,i<ops.size->i ∈ post->posOf kO i=posOf aD i/\b_+ins.length<=posOf aD i:=by intro i ax hm;obtain ⟨q,az⟩:=ap8.1 hm;obtain ⟨g1,_,_⟩:=HD q i az;rw [yt i ax,(Dr i q).2.2 az,g1,Sg,yu];exact ⟨rfl,by omega⟩
 have cls:∀i,i<ops.size->i ∈ pre\/i ∈ ins\/i ∈ post:=by
  intro i ax;rcases VR i ax with ⟨q,az⟩ | ⟨q,az⟩ | ⟨q,az⟩
  . exact .inl (apY az)
  . exact .inr (.inl (apY az))
  . exact .inr (.inr (apY az))
 obtain ⟨vA,aoE,anO,zV,QJ,ab0,ab1,ab2,ab4,ab3⟩:=Kc nK Et σ [] [] pw aa (fun i ax=>(KJ i).1 ax) (fun i ax=>by simp at ax) (by simpa using RQ) (fun m hm=>by simp at hm) oL;obtain ⟨x0,aey⟩:=aev zV;have R3:=LR _ _ wc (LR _ _ QJ aey);rw [<-B9,<-B9] at R3;obtain ⟨ahZ,-,-,-⟩:=uZ QJ;rw [qb,Sg] at ahZ;obtain ⟨bJ,z2,z3,z4⟩:=uZ R3;rw [qb,Bf] at bJ;have Ud:∀k,k<ops.size->posOf kO k<ops.size/\(pre++(σ++post))[posOf kO k]? =some k:=by intro k aB;have hm:k ∈ pre++(σ++post):=lG.mem_iff.2 (apY (Uc k aB).2);obtain ⟨q,az⟩:=ap8.1 hm;have JO:=yG JC az;rw [yt k aB,JO];have:=(apN.1 az).1;exact ⟨by omega,az⟩
 have akd:∀p,p<ops.size->∃i,i<ops.size/\posOf kO i=p:=by intro p af;have az:(pre++(σ++post))[p]? =some ((pre++(σ++post))[p]'(by omega)):=apr _;have hm:(pre++(σ++post))[p]'(by omega) ∈ order:=lG.mem_iff.1 (ap1 _);obtain ⟨q,rb⟩:=ap8.1 hm;have aR:=(y' hp rb).2;exact ⟨_,aR,by rw [yt _ aR];exact yG JC az⟩
 have Pf:∀j o,ops[j]? =some o->dY P o=true->j ∈ ins:=by
  intro j o aU k8;rcases cls j (apt.1 aU).1 with h | h | h
  . rw [(Lh j o h aU).2.1] at k8;cases k8
  . exact h
  . unfold dY at k8;rw [(Cg j o h aU).1] at k8;cases k8
 have Kb:∀k ok,k ∈ ins->ops[k]? =some ok->ok.dst=none/\la ok=true:=by intro k ok aB bz;obtain ⟨o,iF,g1,g2,_⟩:=BE k aB;rw [bz] at g1;cases g1;exact ⟨(BD g2).2.1,(Fa (P:=P) g2).1⟩
 have Ya:∀st,st=ops.size\/(∃k,k<ops.size/\k ∈ ins/\st=posOf kO k)->∀c,b≠c->(b' (hl++(vA++x0)) zV st).get c=aa.get c:=by
  rintro st (rfl | ⟨k,aB,gd,rfl⟩) c ao
  . unfold b';rw [apT (by omega)];exact ab1 c ao
  . obtain ⟨q,_,g2,g3,_⟩:=Ca k aB gd;have EV:q<vA.length:=by omega
    unfold b';rw [g2,apO (by omega),eX,Nat.add_sub_cancel_left,apM EV,apr EV];exact ab4 _ (ap1 EV) c ao
 have C:Cert P aq ops (fun _=>call) (hl++(vA++x0)) r h et zV (hs P kO 0 ops.toList) (pre++(σ++post)) kO ops.size ops.size true:=by
  refine ⟨bJ,apv _,apv _,Ud,akd,z2,z3,?_,?_,?_,?_,?_,?_,fun h=>absurd h (aqM _),fun h=>absurd h (aqM _)⟩
  . intro i o aU _;exact z4 _ o (nf (Ud i (apt.1 aU).1).2 aU)
  . intro i o cv;obtain ⟨cN,f1,f2,f3,_⟩:=mO i o cv;refine ⟨cN,f1,f2,fun _ k ok bz _=>?_⟩;obtain ⟨mk,f4,f5⟩:=f3 k ok bz;have ax:i<ops.size:=(apt.1 cv).1;have aB:k<ops.size:=(apt.1 bz).1;refine ⟨mk,f4,?_,fun he k8 aR=>?_⟩
    . by_cases gd:k ∈ ins
      . unfold o4;rw [(Kb k ok gd bz).1];simp
      . have ah:Nat.blt (posOf kO k) (posOf kO i)=Nat.blt (posOf aD k) (posOf aD i):=by
         rw [aqm,apR,apR];rcases cls k aB with ao | ao | ao
         . obtain ⟨bD,a2⟩:=Cb k aB ao;rcases cls i ax with aH | aH | aH
           . obtain ⟨b8,cg⟩:=Cb i ax aH;omega
           . obtain ⟨q,_,cg,eM,jE,jc⟩:=Ca i ax aH;omega
           . obtain ⟨b8,cg⟩:=K' i ax aH;omega
         . exact absurd ao gd
         . obtain ⟨bD,a2⟩:=K' k aB ao;rcases cls i ax with aH | aH | aH
           . obtain ⟨b8,cg⟩:=Cb i ax aH;omega
           . obtain ⟨q,_,cg,eM,jE,jc⟩:=Ca i ax aH;omega
           . obtain ⟨b8,cg⟩:=K' i ax aH;omega
        rw [ah];exact f5
    . have gd:=Pf k ok bz k8;obtain ⟨aoY,_,cg,eM,jE,jc⟩:=Ca k aB gd;rcases cls i ax with aH | aH | aH
      . obtain ⟨bD,a2⟩:=Cb i ax aH;omega
      . exact .inr ⟨rfl,(Kb i o aH cv).2,(Kb k ok gd bz).2⟩
      . rw [(Cg i o aH cv).1] at he;cases he
  . have:=Fi (P:=P) (aD:=kO) (l:=ops.toList) (i:=0);simpa using this
  . intro j o g1 g2;have:=yM (P:=P) (aD:=kO) (i:=0) (j:=j) (l:=ops.toList) (o:=o) (by simpa using g1) g2;simpa using this
  . intro st cz;rcases uB cz with h | ⟨j,o,g1,g2,g3⟩
    . exact .inl (.inl (by simpa using h))
    . exact .inr ⟨j,o,by simpa using g1,g2,by simpa using g3⟩
  . intro j o q8 aA he _;have bp:j<ops.size:=(apt.1 q8).1;have nP:j ∈ pre:=by
     rcases cls j bp with aH | aH | aH
     . exact aH
     . obtain ⟨b2,iF,g1,g2,_⟩:=BE j aH;rw [q8] at g1;cases g1;rw [(Fa (P:=P) g2).2.1] at he;cases he
     . rw [(Cg j o aH q8).2] at aA;cases aA
    obtain ⟨ti,V0,ma⟩:=(Lh j o nP q8).2.2 aA he;obtain ⟨q,az⟩:=ap8.1 nP;obtain ⟨bD,_,a3⟩:=HE q j az;obtain ⟨e,c,off,ab,dz,fo,y3,y4,Mh⟩:=S' ep q j o ti V0 az q8 ma;have adC:(hl++(vA++x0))[posOf kO j]? =some e:=by rw [(Cb j bp nP).1,bD,apM (by omega)];rw [apW,q2,apM (by omega)] at dz;exact dz
    refine ⟨e,adC,fun st cz _=>⟨call,_,⟨cb,dC⟩,aaH ma y4 Mh fo _ (Ya st ?_ c fun h=>y3 h.symm)⟩⟩;rcases uB cz with h | ⟨br,b2,g1,g2,g3⟩
    . exact .inl (by simpa using h)
    . have ES:ops[br]? =some b2:=by simpa using g1
      exact .inr ⟨br,(apt.1 ES).1,Pf br b2 ES g2,by simpa using g3⟩
 have ky:∀(ar:Env) (bl:Act),E.le ar->bl.defers=a.defers->∀(a_:bC),T.get .bad eH a_=T.get .bad eH r->lz ar (T.get .bad eH a_) bl.defers:=fun ar bl he aH a_ sG=>by rw [sG,aH];exact k.defers.mono he
 have EC:T.get .bad eH et=T.get .bad eH r:=by have:=C.H_ ops.size (apv _);have JE:(hl++(vA++x0))[ops.size]? =none:=apT (by omega);unfold eb at this;rw [JE] at this;exact this
 have j4:Holds ay ay (hl++(vA++x0)) zV kO (jW ops (hl++(vA++x0)) zV kO (Array.replicate ops.size false) 0):=
  ⟨rfl,fun _ _=>rfl,fun k aB=>(by obtain ⟨_,_,_,_,aY⟩:=aB;omega),fun k br aB=>(by obtain ⟨_,_,_,_,aY⟩:=aB;omega)⟩
 obtain ⟨fT,dQ,g1,g2,g3,g4,g5,g6⟩:=C.advance ops.size 0 (by omega) (fun k o _ _ _=>dp k) ay j4 (E:=E) (w:={w with drawn:=w.drawn}) (by rw [C.aY];exact s.same rfl rfl rfl rfl);rw [<-su];refine aiz (ay:=ay) bE (fun _=>cb) (fun _=>dC) C (ga:=E) (D:=a.defers) (tH:=tH) (fun ar bl w' ak al aI bB=>?_) (fun i k ax aB aR bl bL ac'=>?_) ops.size t _ [] a _ (by rw [su];rfl) (fun k _=>⟨fun h=>absurd h (dp k),fun h=>by simp at h⟩) (aqo arx (by simp)) ?_
 . refine af ar bl w' ak ⟨al,ky ar bl ak aI et EC⟩ ?_;have me:=dx al A.m;rw [sD] at me;simp only [Rel] at me;obtain ⟨p,acU,_⟩:=me;rw [abZ,<-ab2];refine bB.forget ab0 acU ?_;rw [aqk,Tj (E9 yp),Ti (fun i m h=>P' h) ab3];exact JM.symm.map _
 . have nO:i<ops.size:=by
    unfold mj at ax;cases aU:ops[i]? with
    | none=>rw [aU] at ax;cases ax
    | some o=>exact (apt.1 aU).1
   have RC:k<ops.size:=by
    unfold mj at aB;cases aU:ops[k]? with
    | none=>rw [aU] at aB;cases aB
    | some o=>exact (apt.1 aU).1
   have gd:=(Ka k RC).1 aB;have Sf:σ=bl.filter (mj ops)++i::bL.filter (mj ops):=by rw [<-J9,ac',List.filter_append,List.filter_cons_of_pos ax]
   have jH:posOf kO i=b_ + (bl.filter (mj ops)).length:=by rw [yt i nO,(Dr i (bl.filter (mj ops)).length).2.1 (by rw [Sf,apO (apv _),aq7];rfl),yu]
   obtain ⟨q,az,EU,_⟩:=Ca k RC gd;have ui:q < (bl.filter (mj ops)).length:=by omega
   rw [Sf,apM ui] at az;exact (arn.1 (apY az)).1
 . refine ⟨by simp,k.size,rfl,fun br aB=>absurd aB (dp br),fun br o e aB=>absurd aB (dp br),E,fT,dQ,Env.le.refl E,g1,g3,fun br o aa ad=>⟨fun h=>absurd h (dp br),fun h=>by have:=g4 br o aa ad (aqS _);omega⟩,
    fun br o _ _ h=>absurd h (dp br),g5,?_,fun t aE=>.inr ⟨fun br o aB=>absurd aB (dp br),k.au t aE⟩⟩
   exact g6.same rfl rfl rfl rfl
theorem aaK {rd:Option Nat} {ay:Fr} {E:Env} {h:ae} {w:World} {id:Nat} (cJ:P.follows .mixedOrders=true) (bE:ec P) (cb:gq P call) (dC:gJ P call) {r:bC} {a:Act}
 {Q:Exit->Act->World->Prop} (af:nA ay E aq (Q .normal) Q ((H8 P aq ops).run call r h)) (k:e8 E aq r a) (s:a8 ay E h w):(Code.region id ops true).wpIn (b4 rd) 0 P Q a w:=by
 unfold H8 at af;generalize uJ P ops=order at af;generalize y_ order 0 ops.toList=aD at af;unfold PR at af;cases av:(lp ops.size order aD&&vw P ops aD) with
 | false=>
   rw [av] at af;simp only [apA] at af;cases jl:(lp ops.size order aD&&Cv P ops order aD) with
   | false=>
     rw [jl] at af;simp only [apA] at af;cases I':lp ops.size order aD with
     | false=>rw [I'] at af;exact af.elim
     | true=>
       rw [I'] at af;simp only [apu] at af;exact aiA cJ bE cb dC I' af k s
   | true=>
     rw [jl] at af;simp only [apu] at af;simp only [apq] at jl;exact aaL cJ bE cb dC jl.1 jl.2 af k s
 | true=>
   rw [av] at af;simp only [apu] at af;simp only [apq] at av;obtain ⟨hp,gX⟩:=av;unfold lp at hp;simp only [apq,apV] at hp;obtain ⟨oQ,yr,Bi,Bj⟩:=hp;have h4:∀k,k<ops.size->posOf aD k<ops.size/\order[posOf aD k]? =some k:=by
    intro k aB;have aG:aD[k]? =some (posOf aD k):=by unfold posOf;rw [apr (by omega)];rfl
    have:=uN Bi aG;rw [apW] at this;exact ⟨by have:=(apN.1 this).1;omega,this⟩
   have lo:∀p,p<ops.size->∃i,i<ops.size/\posOf aD i=p:=by intro p af;have aG:order[p]? =some (order[p]'(by omega)):=apr (by omega);have:=uN Bj aG;rw [apW] at this;refine ⟨order[p]'(by omega),by have:=(apN.1 this).1;omega,?_⟩;unfold posOf;rw [this];rfl
   have LP:∀j o,ops[j]? =some o->dY P o=true->posOf aD j ∈ hs P aD 0 ops.toList:=fun j o aa ad=>by simpa using yM (aD:=aD) (i:=0) (j:=j) (l:=ops.toList) (by simpa using aa) ad
   have al4:ops.size ∈ hs P aD 0 ops.toList:=by simpa using Fi (P:=P) (aD:=aD) (l:=ops.toList) (i:=0)
   have Vf:∀N M,∀s ∈ hs P aD 0 ops.toList,(s=ops.size\/(s=N/\M=N))\/∃k o,ops[k]? =some o/\dY P o=true/\s=posOf aD k:=fun N M s aZ=>by
    rcases uB aZ with h | ⟨j,o,aa,ad,aJ⟩
    . exact .inl (.inl (by simpa using h))
    . exact .inr ⟨j,o,by simpa using aa,ad,by simpa using aJ⟩
   have Rt:∀i o,ops[i]? =some o->∃cN,(eE [] ops.toList)[i]? =some cN/\mq i o=true/\(posOf aD i<ops.size->
    ∀k ok,ops[k]? =some ok->posOf aD k<ops.size->∃mk,(eE [] ops.toList)[k]? =some mk/\o4 i cN (bY ops o) o.dst k mk ok (Nat.blt (posOf aD k) (posOf aD i))=true/\(eN P o.op=true->dY P ok=true->posOf aD k<posOf aD i->fC cN k=true\/(false=true/\la o=true/\la ok=true))):=by
    intro i o ax;obtain ⟨cN,g1,g2,g3⟩:=PQ gX i o ax
    exact ⟨cN,g1,g2,fun _ k ok aB _=>by
     obtain ⟨mk,dz,fo,y3⟩:=g3 k ok aB
     exact ⟨mk,dz,fo,fun a b c=>.inl (y3 a b c)⟩⟩
   have main:∀(q:CF),
    (∀es oN N,es.length=N->N<=ops.size->(∀i o,ops[i]? =some o->posOf aD i<N->∃e,es[posOf aD i]? =some e/\(cE P aq ops o).run call e.r e.h=.val e.v (b' es oN (posOf aD i+1)))->
      (N<ops.size->∃i0 gE,ops[i0]? =some gE/\posOf aD i0=N/\dY P gE=true)->q.run call es oN=true->∀j o,ops[j]? =some o->looks o.op=true->eN P o.op=false->posOf aD j<N->∃e,es[posOf aD j]? =some e/\∀s ∈ hs P aD 0 ops.toList,
      sV P (eE [] ops.toList) ops.toList aD j (((eE [] ops.toList)[j]?).getD 0) s=true->∃ab,(cE P aq ops o).run call e.r (b' es oN s)=.val e.v ab)->
    nA ay E aq (Q .normal) Q (DM ops order aD (fm P aq ops (hc ops order)) q call r h)->(Code.region id ops true).wpIn (b4 rd) 0 P Q a w:=by
    intro q tY cR;unfold DM at cR;cases cz:(fm P aq ops (hc ops order)).run call r h with
    | fail=>rw [cz] at cR;exact cR.elim
    | ok es et a'=>
      rw [cz] at cR;simp only at cR;cases az:q.run call es a' with
      | false=>rw [az] at cR;exact cR.elim
      | true=>
        rw [az] at cR;simp only [apu] at cR;obtain ⟨ak,al,aI,bB⟩:=uZ cz;have hlen:es.length=ops.size:=by rw [ak,qb,oQ]
        have hF:∀i o,ops[i]? =some o->posOf aD i<ops.size->∃e,es[posOf aD i]? =some e/\(cE P aq ops o).run call e.r e.h=.val e.v (b' es a' (posOf aD i+1))/\eb es et (posOf aD i+1)=(ft o.dst).run e.r e.v:=
         fun i o aU _=>bB _ o (nf (h4 i (apt.1 aU).1).2 aU)
        have C:Cert P aq ops (fun _=>call) es r h et a' (hs P aD 0 ops.toList) order aD ops.size ops.size false:=
         ⟨hlen,apv _,apv _,h4,lo,al,aI,hF,Rt,al4,LP,Vf _ _,
           fun j o aa ad aJ bu=>by obtain ⟨e,g1,g2⟩:=tY es a' _ hlen (apv _) (fun i o aU ax=>by obtain ⟨e,bJ,z2,_⟩:=hF i o aU ax;exact ⟨e,bJ,z2⟩) (fun h=>by omega) az j o aa ad aJ bu;exact ⟨e,g1,fun s aZ hm=>by obtain ⟨ab,g3⟩:=g2 s aZ hm;exact ⟨_,ab,⟨cb,dC⟩,g3⟩⟩,
           fun h=>absurd h (aqM _),fun h=>absurd h (aqM _)⟩
        exact H' cJ bE cb dC k s C (fun _=>cR) (fun _ _ _ _ _ _ _ h=>absurd h (aqM _)) (fun h=>absurd h (aqM _))
    | cK es et a' v ab=>
      rw [cz] at cR;simp only at cR;cases az:(K_ ops order aD es.length&&q.run call es a') with
      | false=>rw [az] at cR;exact cR.elim
      | true=>
        rw [az] at cR;simp only [apu] at cR;simp only [apq] at az;obtain ⟨wa,az⟩:=az;obtain ⟨al,aI,bB,gE,cG,ef,hO⟩:=Vg cz;have aR:es.length<ops.size:=by have:=(apN.1 cG).1;rw [qb,oQ] at this;exact this
        obtain ⟨i0,vW,jH⟩:=lo es.length aR;have cv:ops[i0]? =some ops[i0]:=apL vW;have pU:=(h4 i0 vW).2;rw [jH] at pU;have aef:gE=ops[i0]:=by have:=nf pU cv;rw [cG] at this;cases this;rfl
        subst aef;unfold K_ at wa;rw [pU] at wa;simp only at wa;obtain ⟨m0,RI,_⟩:=qw wa i0 ops[i0] (by simp);have Sc:∀k ok,ops[k]? =some ok->∃mk,(eE [] ops.toList)[k]? =some mk/\(es.length<posOf aD k->fC mk i0=true)/\(gh ok=true->posOf aD k<es.length->fC m0 k=true):=by
         intro k ok aB;obtain ⟨mk,bJ,z2⟩:=qw wa k ok (by simpa using aB);simp only [apW,apq] at z2;refine ⟨mk,bJ,fun aG=>?_,fun bt aA=>?_⟩
         . have:=z2.1;rw [show Nat.blt es.length (posOf aD k)=true from by rw [apR];exact aG] at this;exact this
         . have:=z2.2;rw [bt,show Nat.blt (posOf aD k) es.length=true from by rw [apR];exact aA,RI] at this;exact this
        have yi:dY P ops[i0]=true:=by obtain ⟨bK,bR⟩:=Tk (P:=P) ef;unfold dY;rw [bK,bR];rfl
        have hF:∀i o,ops[i]? =some o->posOf aD i<es.length->∃e,es[posOf aD i]? =some e/\(cE P aq ops o).run call e.r e.h=.val e.v (b' es a' (posOf aD i+1))/\eb es et (posOf aD i+1)=(ft o.dst).run e.r e.v:=
         fun i o aU aA=>bB _ o aA (nf (h4 i (apt.1 aU).1).2 aU)
        have C:Cert P aq ops (fun _=>call) es r h et a' (hs P aD 0 ops.toList) order aD es.length ops.size false:=
         ⟨rfl,Nat.le_of_lt aR,Nat.le_of_lt aR,h4,lo,al,aI,hF,Rt,by rw [<-jH];exact LP i0 _ cv yi,LP,Vf _ _,
           fun j o aa ad aJ bu=>by obtain ⟨e,g1,g2⟩:=tY es a' _ rfl (Nat.le_of_lt aR) (fun i o aU ax=>by obtain ⟨e,bJ,z2,_⟩:=hF i o aU ax;exact ⟨e,bJ,z2⟩) (fun _=>⟨i0,_,cv,jH,yi⟩) az j o aa ad aJ bu;exact ⟨e,g1,fun s aZ hm=>by obtain ⟨ab,g3⟩:=g2 s aZ hm;exact ⟨_,ab,⟨cb,dC⟩,g3⟩⟩,
           fun h=>absurd h (aqM _),fun _ _=>⟨i0,_,m0,cv,jH,ef,RI,fun k ok mk aB aG Jx=>by
            obtain ⟨mk',bJ,z2,_⟩:=Sc k ok aB;rw [Jx] at bJ;cases bJ;exact z2 aG,fun k ok aB bt aA=>by
            obtain ⟨mk',bJ,_,z3⟩:=Sc k ok aB;exact z3 bt aA,v,ab,hO⟩⟩
        refine H' cJ bE cb dC k s C (fun h=>absurd h (by omega)) (fun ar bl w' x v1 aa g1 _ _ g3 g4 g5 g6=>?_) (fun h=>absurd h (aqM _));obtain ⟨i1,cX,bJ,z2,z3⟩:=g3;have:i1=i0:=C.wX (apt.1 bJ).1 vW (by rw [z2,jH]);subst this;rw [cv] at bJ;cases bJ;rw [hO] at z3;cases z3;exact cR ar bl w' x g1 g4 g5 g6
   cases aA:r6 P ops.toList with
   | false=>
     rw [aA] at af;have none:∀(l:List Oper),r6 P l=false->∀(j:Nat) (o:Oper),l[j]? =some o->eN P o.op=false:=by
      intro l
      induction l with
      | nil=>intro _ j o h;simp at h
      | cons x l bb=>
        intro h j o aU;simp only [r6,aq5] at h;cases j with
        | zero=>simp only [apK,aps] at aU;subst aU;exact h.1
        | succ j=>exact bb h.2 j o (by simpa using aU)
     refine main _ (fun es oN N hlen hle hF R6 _ j o aU ep az Ba=>?_) af;have IM:N=ops.size:=by
      rcases aqI N ops.size with aR | ie
      . obtain ⟨i0,gE,bJ,z2,z3⟩:=R6 aR;have:=none _ aA i0 gE (by simpa using bJ);unfold dY at z3;rw [this] at z3;cases z3
      . omega
     obtain ⟨e,cc,cx⟩:=hF j o aU Ba;refine ⟨e,cc,fun s aZ _=>?_⟩;have jn:s=ops.size:=by
      rcases uB aZ with h | ⟨Fc,b2,aa,ad,aJ⟩
      . simpa using h
      . have:=none _ aA Fc b2 aa;unfold dY at ad;rw [this] at ad;cases ad
     have flat:∀d,d<=ops.size->b' es oN d=b' es oN 0:=by
      intro d
      induction d with
      | zero=>intro _;rfl
      | succ d bb=>
        intro aH;obtain ⟨i,vX,nO⟩:=lo d (by omega);have cv:ops[i]? =some ops[i]:=apL vX;obtain ⟨aa5,bW,bx⟩:=hF i ops[i] cv (by omega);rw [nO] at bW bx;have c4:eN P ops[i].op=false:=none _ aA i _ (by simp);rw [(vv c4 bx).1,<-bb (by omega)];simp [b',bW]
     have:e.h=b' es oN s:=by rw [jn,flat ops.size (apv _),<-flat (posOf aD j) (by omega)];simp [b',cc]
     rw [<-this];exact ⟨_,cx⟩
   | true=>
     rw [aA] at af;refine main _ (fun es oN N hlen hle hF R6 JO j o aU ep az Ba=>?_) af;obtain ⟨e,cc,_⟩:=hF j o aU Ba;have:=HB JO j o (by simpa using aU) ep az e (by simpa using cc);exact ⟨e,cc,by simpa using this⟩
end
def toExit:cO->Exit
 | .normal=>.normal
 | .exit id=>.exit id
 | .ret=>.ret
def WY (C:Ctx):Prop:=
 ∀f p args h v ab,C.Li f=some p->p.run args h=.val v ab->(∃fn,C.P.funcs[f]? =some fn/\fn.body.isSome=true)/\∀(ay:Fr) E w xs,bf E args xs->a8 ay E h w->
  Calls C.P f xs.toArray w fun e w'=>∃ar x,e=.returned x/\E.le ar/\Rel ar v x/\a8 ay ar ab w'
def Wl (C:Ctx):Prop:=
 ∀f p args h v ab,C.ext f=some p->p.run args h=.val v ab->∀(ay:Fr) E w xs,bf E args xs->a8 ay E h w->
  ∃ar x w',(callFunc f xs.toArray).run C.P w=.ok (.value x) w'/\E.le ar/\Rel ar v x/\a8 ay ar ab w'
def pk (C:Ctx):Prop:=WY C/\Wl C
theorem pH {P:Program} {rd:Option Nat} (m:Machine):m.fenced P (b4 rd):=fenced_wide P m
def CD (rd:Option Nat) (P:Program) (c:Code) (Q:Exit->Act->World->Prop) (a:Act) (w:World):Prop:=
 match c with
 | .loop x=>∀(b:Frame) (k:List Item) (cs:List Frame),b.roundOf=rd->∃e bl w',Q e bl w'/\ArrivesIn (Machine.fenced P (b4 rd)) P (lone (b.atR a (.code x::.inLoop x::k)) cs w) b k cs e bl w'
 | c=>c.wpIn (b4 rd) 0 P Q a w
theorem CD.wp {rd:Option Nat} {P:Program} {c:Code} {Q:Exit->Act->World->Prop} {a:Act} {w:World} (h:CD rd P c Q a w):c.wpIn (b4 rd) 0 P Q a w:=by
 cases c with
 | loop x=>
   intro b k cs j9 _ _;obtain ⟨e,bl,w',q,r⟩:=h b k cs j9;exact ⟨e,bl,w',q,.of_steps (.one (pH _) stepR_loop) r⟩
 | _=>exact h
def xD (ay:Fr) (E:Env) (aq:Nat) (Q:Exit->Act->World->Prop):lX->Prop
 | .ok e r h=>∀ar bl w',E.le ar->e8 ar aq r bl->a8 ay ar h w'->Q (toExit e) bl w'
 | .cK v r h=>∀ar bl w' x,E.le ar->e8 ar aq r bl->Rel ar v x->a8 ay ar h w'->Q (.panic (qd x)) bl w'
 | .fail=>False
theorem xD.up {ay:Fr} {E ar:Env} (h:E.le ar) {aq:Nat} {Q:Exit->Act->World->Prop} {x:lX} (k:xD ay E aq Q x):xD ay ar aq Q x:=by
 cases x with
 | ok e r a'=>exact fun bA a w ad=>k bA a w (h.trans ad)
 | cK v r a'=>exact fun bA a w x ad=>k bA a w x (h.trans ad)
 | fail=>exact k
def Mr (P:Program) (aq:Nat) (c:Code) (run:bC->ae->lX):Prop:=
 ∀(rd:Option Nat) (ay:Fr) r h,(rd=none\/noMark c=true)->∀E a w,e8 E aq r a->a8 ay E h w->∀Q:Exit->Act->World->Prop,xD ay E aq Q (run r h)->CD rd P c Q a w
def tv (P:Program) (ex:hQ):Prop:=∀aq c,Mr P aq c (ex aq c)
def w3 (tmps:Array Value):ResultVar->Sem Value
 | .tmp t=>pure (tmps.getD t undef)
 | .cell b t=>do loadVar t (<-asAddr (tmps.getD b undef))
theorem Ly {P:Program} {ay:Fr} {E:Env} {aq:Nat} {r:bC} {h:ae} {a:Act} {w:World} (k:RegRel0 E aq r a) (s:a8 ay E h w):∀{l:List ResultVar} {ag:List V},(kR P aq l).run r h=some ag->
 ∃xs,bf E ag xs/\(l.mapM (w3 a.tmps)).run P w=.ok xs w
 | [],ag,he=>by simp only [kR,aps] at he;subst he;exact ⟨[],rfl,rfl⟩
 | .tmp t::l,ag,he=>by
   simp only [kR] at he;cases ao:(Nat.ble t top&&Nat.blt t aq) with
   | false=>rw [ao] at he;cases he
   | true=>
     rw [ao] at he;simp only [apu] at he;simp only [apq,apE] at ao;cases aC:(kR P aq l).run r h with
     | none=>rw [aC] at he;cases he
     | some us=>
       rw [aC] at he;simp only [aps] at he;subst he;obtain ⟨xs,aa,ad⟩:=Ly k s aC;refine ⟨_::xs,by simp only [bf];exact ⟨_,_,rfl,k.au t ao.1,aa⟩,?_⟩;rw [List.mapM_cons,Sem.run_bind];simp only [w3,Sem.run_pure,Result.andThen_ok,Sem.run_bind,ad]
 | .cell b t::l,ag,he=>by
   simp only [kR] at he;cases ao:(Nat.ble b top&&Nat.blt b aq) with
   | false=>rw [ao] at he;cases he
   | true=>
     rw [ao] at he;simp only [apu] at he;simp only [apq,apE] at ao;cases bs:(p_ P t).run h (T.get .bad (aw b) r) with
     | none=>rw [bs] at he;cases he
     | some v=>
       rw [bs] at he;simp only at he;cases aC:(kR P aq l).run r h with
       | none=>rw [aC] at he;cases he
       | some us=>
         rw [aC] at he;simp only [aps] at he;subst he;obtain ⟨xs,aa,ad⟩:=Ly k s aC;obtain ⟨Y,_,cQ,A,jF,ff⟩:=S9 (P:=P) s (k.au b ao.1) bs;refine ⟨Y::xs,by simp only [bf];exact ⟨_,_,rfl,cQ,aa⟩,?_⟩;rw [List.mapM_cons,Sem.run_bind];simp only [w3,jF,asAddr,Sem.run_bind,Sem.run_pure,Result.andThen_ok,ff,ad]
theorem Nk:∀(args:List V) (i:Nat) (t:bC) (j:Nat),i+args.length<=top+1->j<=top->
 T.get .bad (aw j) (mG i args t)=if i<=j/\j<i+args.length then (args[j-i]?).getD .bad else T.get .bad (aw j) t
 | [],i,t,j,_,_=>by
   have:¬(i<=j/\j<i):=by omega
   simp [mG,this]
 | v::ag,i,t,j,h,bp=>by
   simp only [apB] at h ⊢;rw [mG,Nk ag _ _ _ (by omega) bp];by_cases aa:i+1<=j/\j<i+1+ag.length
   . rw [apz aa,apz (by omega)];have:j-i=(j - (i+1))+1:=by omega
     rw [this,aqr]
   . rw [apw aa,T.hW];by_cases ad:j=i
     . subst ad;rw [apz rfl,apz (by omega)];simp
     . rw [apw (fun e=>ad (hN e).symm),apw (by omega)]
theorem ajP {E:Env} {ag:List V} {xs:List Value} (h:bf E ag xs) (fn:Func) (a:Act) (P:Program) (w:World)
 (aC:(fn.results.toList.mapM (w3 a.tmps)).run P w=.ok xs w):∃x,(results fn a.tmps).run P w=.ok x w/\Rel E (oneOf ag) x:=by
 have sC:(fn.results.mapM (w3 a.tmps)).run P w=.ok xs.toArray w:=by rw [Array.mapM_eq_mapM_toList,Sem.run_map,aC];rfl
 have I1:results fn a.tmps=(do
  let ag <-fn.results.mapM (w3 a.tmps)
  pure (if h:ag.size=1 then ag[0] else .tuple ag)):=by
  unfold results
  have:(fun x=>match x with
   | ResultVar.tmp t=>(pure (a.tmps.getD t undef):Sem Value)
   | ResultVar.cell b t=>do loadVar t (<-asAddr (a.tmps.getD b undef)))=w3 a.tmps:=by
   funext x;cases x<;>rfl
  rw [<-this];rfl
 have yv:(results fn a.tmps).run P w=.ok (if h:xs.toArray.size=1 then xs.toArray[0] else .tuple xs.toArray) w:=by rw [I1,Sem.run_bind,sC];rfl
 refine ⟨_,yv,?_⟩
 match ag,h with
 | [],h=>
   simp only [bf] at h;subst h;simp only [oneOf,Rel];exact ⟨#[],rfl,rfl⟩
 | [v],h=>
   simp only [bf] at h;obtain ⟨y,cp,rfl,a6,rfl⟩:=h;simpa [oneOf] using a6
 | v::u::ag,h=>
   have aA:=h.length;have c4:¬xs.toArray.size=1:=by simp at aA ⊢;omega
   rw [dif_neg c4];simp only [oneOf,Rel];exact ⟨_,rfl,by simpa using h⟩
section
variable {C:Ctx}
theorem Nj:∀(args:List V) (i:Nat) (t:bC),i+args.length<=top+1->T.get .bad eH (mG i args t)=T.get .bad eH t
 | [],_,_,_=>rfl
 | v::ag,i,t,h=>by simp only [apB] at h;simp only [mG];rw [Nj ag (i+1) _ (by omega),T.hW,apw (wU (by omega))]
theorem P_ {E:Env} {aq:Nat} {args:List V} {xs:List Value} (aA:bf E args xs) (ku:args.length<=aq) (fb:aq<=top):
 e8 E aq (mG 0 args .e) {tmps:=xs.toArray++Array.replicate (aq-xs.toArray.size) undef,defers:=[]}:=by
 have hlen:=aA.length;refine ⟨⟨by simp;omega,fun t aE=>?_⟩,?_⟩
 . rw [Nk _ _ _ _ (by omega) aE];by_cases aR:t<args.length
   . rw [apz (by omega),arD,apr aR];obtain ⟨y,a6,cQ⟩:=aA.get t args[t] (apr aR);simp only [apX];have:(xs.toArray++Array.replicate (aq-xs.toArray.size) undef).getD t undef=y:=by
      rw [apQ,arb (by simp;omega)];simp [a6]
     rw [this];exact cQ
   . rw [apw (by omega)];simp [Rel]
 . rw [Nj _ _ _ (by omega)];simp [lz]
def kZ (E:Env) (u:Option V) (m:FrameMode):Prop:=
 match u with
 | none=>m=.returning
 | some v=>∃x,Rel E v x/\m=.panicking (qd x)
theorem kZ.mono {E ar:Env} (h:E.le ar) {u:Option V} {m:FrameMode} (k:kZ E u m):kZ ar u m:=by
 cases u with
 | none=>exact k
 | some v=>obtain ⟨x,aa,ad⟩:=k;exact ⟨x,Rel.mono h _ _ aa,ad⟩
theorem kZ.settle {E:Env} {u:Option V} {m:FrameMode} (k:kZ E u m):settle m=m:=by
 cases u with
 | none=>simp only [kZ] at k;subst k;rfl
 | some v=>obtain ⟨x,aa,rfl⟩:=k;rfl
theorem kZ.run {E:Env} {u:Option V} {m:FrameMode} (k:kZ E u m):m≠.run:=by
 cases u with
 | none=>simp only [kZ] at k;subst k;simp
 | some v=>obtain ⟨x,aa,rfl⟩:=k;simp
def zO (P:Program) (kn:u7):Prop:=
 ∀f args u h fu ab,kn f args u h=.go fu ab->(∃fn,P.funcs[f]? =some fn/\fn.body.isSome=true)/\
  ∀(ay:Fr) E w xs m,bf E args xs->kZ E u m->a8 ay E h w->CallsDIn (b4 none) 0 P f xs.toArray m w fun e dj w'=>∃ar x,e=.returned x/\E.le ar/\kZ ar fu (settle dj)/\a8 ay ar ab w'
theorem a8.gone {ay:Fr} {E:Env} {h:ae} {w w':World} (s:a8 ay E h w) {b:aL} {p:jb} (hY:(h.get b).own=true) (af:E b=some p) (cD:ay.w.heap.size<=p.aW)
 (aR:w.heap.size<=w'.heap.size) (mV:∀j,j≠p.aW->w'.heap[j]? =w.heap[j]?) (ra:w'.os=w.os) (aE:w'.tape=w.tape) (aU:w'.output=w.output):a8 ay E (h.set b .dead) w':=
 s.set hY af cD aR mV ra aE aU (fun _ _ _ e=>by cases e) trivial
theorem Kv {P:Program} {kn:u7} (bE:ec P) (ky:zO P kn) {ay:Fr} {fn:Func} {tmps:Array Value} {R:Ending->World->Prop}:∀(ag:List V) (ds:List Deferred) (E:Env) (u:Option V) (h:ae) (w:World) (m:FrameMode) (fu:Option V) (ab:ae),
 mn kn ag u h=.go fu ab->ns E ag ds->kZ E u m->a8 ay E h w->(∀ar dj w',E.le ar->kZ ar fu dj->a8 ay ar ab w'->LeavesInM (b4 none) 0 P fn tmps R [] dj w')->LeavesInM (b4 none) 0 P fn tmps R ds m w
 | [],ds,E,u,h,w,m,fu,ab,he,aH,hu,s,cQ=>by simp only [mn,tB.go.injEq] at he;obtain ⟨rfl,rfl⟩:=he;simp only [ns] at aH;subst aH;exact cQ E m w (Env.le.refl E) hu s
 | v::ag,ds,E,u,h,w,m,fu,ab,he,aH,hu,s,cQ=>by
   obtain ⟨d,l3,rfl,Ez,EA⟩:=aH;cases v with
   | func f args=>
     simp only [mn] at he;cases ao:kn f args u h with
     | fail=>rw [ao] at he;cases he
     | go GD aa=>
       rw [ao] at he;simp only at he;obtain ⟨av,cap,aE,aA⟩:=Ez;obtain ⟨⟨It,ho,ah⟩,cb⟩:=ky _ _ _ _ _ _ ao;refine ⟨hu.run,.inr ⟨fun h=>by simp at h,_,cap,f,d.args++cap,aE,?_,fun _ _=>trivial,?_⟩⟩
       . rw [aE];simp only [invoke];exact uV bE ho ah _ w
       . have e:d.args++cap=(d.args.toList++cap.toList).toArray:=by apply aq9;simp
         rw [e];refine CallsDIn.mono (cb ay E w _ m aA hu s) fun e m1 bW az=>?_;obtain ⟨gr,x,rfl,ak,al,aI⟩:=az;exact Kv bE ky ag l3 gr GD aa bW (settle m1) fu ab he (EA.mono ak) al aI fun bA m2 bx cc cx eF=>cQ bA m2 bx (ak.trans cc) cx eF
   | ptr b off=>
     simp only [mn] at he;cases aG:h.get b<;>rw [aG] at he<;>simp only at he<;>try (cases he;done)
     obtain ⟨p,af,adt⟩:=Ez;have ah:=s.at af;rw [aG] at ah;obtain ⟨p',gZ,cD,a'⟩:=ah;rw [af] at gZ;cases gZ;have kE:=(apt.1 a').1
     let bW:World:={w with heap:=w.heap.setIfInBounds p.aW (.deferred none)}
     have aeP:(Instr.takeDeferred p.aW).run P w=.ok [] bW:=by
      have cm:(getObj p.aW).run P w=.ok (.deferred (some [])) w:=by simp only [getObj,Sem.run,a']
      have pZ:(setObj p.aW (.deferred none)).run P w=.ok () bW:=by simp only [setObj,Sem.run,a'];rfl
      simp only [Instr.takeDeferred,Sem.run_bind,cm,Result.andThen_ok,pZ,Sem.run_pure]
     have s1:a8 ay E (h.set b .dead) bW:=s.gone (by rw [aG];rfl) af cD (by simp [bW]) (fun j bp=>by simp only [bW,apI];rw [apw (fun e=>bp e.symm)]) rfl rfl rfl;refine ⟨hu.run,.inl ⟨p.aW,bW,by rw [adt],aeP,?_⟩⟩;exact Kv bE ky ag l3 E u _ bW m fu ab he EA hu s1 cQ
   | _=>simp [mn] at he
theorem LC {P:Program} {ay:Fr} {E:Env} {fn:Func} {r:bC} {h:ae} {a:Act} {w:World} (k:RegRel0 E fn.ntmps r a) (s:a8 ay E h w) {ag:List V} (bs:(kR P fn.ntmps fn.results.toList).run r h=some ag):
 ∃x,(results fn a.tmps).run P w=.ok x w/\Rel E (oneOf ag) x:=by
 obtain ⟨cp,cc,cx⟩:=Ly (P:=P) k s bs;exact ajP cc fn a P w cx
section
variable {C:Ctx}
theorem Zw (ex:hQ):gJ C.P (se C ex):=by intro f args h v ab he;trivial
def rZ (ay:Fr) (E:Env) (R:Ending->World->Prop):a7->Prop
 | .val v ab=>∀ar x w',E.le ar->Rel ar v x->a8 ay ar ab w'->R (.returned x) w'
 | .cK v ab=>∀ar x w',E.le ar->Rel ar v x->a8 ay ar ab w'->R (.panicked (qd x)) w'
 | .fail=>False
theorem rZ.up {ay:Fr} {E ar:Env} (h:E.le ar) {R:Ending->World->Prop} {x:a7} (k:rZ ay E R x):rZ ay ar R x:=by
 cases x with
 | val v a'=>exact fun bA a w ad=>k bA a w (h.trans ad)
 | cK v a'=>exact fun bA a w ad=>k bA a w (h.trans ad)
 | fail=>exact k
theorem D6 (bE:ec C.P) {kn:u7} (ky:zO C.P kn) {ay:Fr} {fn:Func} {E:Env} {r:bC} {u:Option V} {h:ae} {a:Act} {w:World} {m:FrameMode} {R:Ending->World->Prop}
 (k:e8 E fn.ntmps r a) (hu:kZ E u m) (s:a8 ay E h w)
 (af:rZ ay E R (finish (kR C.P fn.ntmps fn.results.toList) r (mn kn (T.get .bad eH r).list u h))):LeavesInM (b4 none) 0 C.P fn a.tmps R a.defers m w:=by
 cases aA:mn kn (T.get .bad eH r).list u h with
 | fail=>rw [aA] at af;exact af.elim
 | go fu ab=>
   rw [aA] at af;refine Kv bE ky _ a.defers E u h w m fu ab aA k.defers.list hu s fun ar dj w' ak al aI=>?_;cases fu with
   | some v=>
     obtain ⟨x,aj,rfl⟩:=al;exact af ar x w' ak aj aI
   | none=>
     simp only [kZ] at al;subst al;simp only [finish] at af;cases bs:(kR C.P fn.ntmps fn.results.toList).run r ab with
     | none=>rw [bs] at af;exact af.elim
     | some ag=>
       rw [bs] at af;obtain ⟨x,cc,cx⟩:=LC (P:=C.P) (k.mono ak).toRegRel0 aI bs;exact ⟨x,cc,af ar x w' ak cx aI⟩
theorem PE {res:xE} {u fu:Option V} {x:lX} {ab:ae} (he:DK res u x=.go fu ab):∃e r ag,x=.ok e r ab/\(e=.normal\/e=.ret)/\T.get .bad eH r=.bad/\res.run r ab=some ag/\fu=u:=by
 unfold DK at he;cases x with
 | fail=>cases he
 | cK _ _ _=>cases he
 | ok e r h=>
   have main:(bif (T.get .bad eH r).Kf then (match res.run r h with
    | some _=>tB.go u h
    | none=>.fail) else .fail)=.go fu ab->(e=.normal\/e=.ret)->∃cC a_ ag,lX.ok e r h=.ok cC a_ ab/\(cC=.normal\/cC=.ret)/\T.get .bad eH a_=.bad/\res.run a_ ab=some ag/\fu=u:=by
    intro he hE;cases ah:(T.get .bad eH r).Kf with
    | false=>rw [ah] at he;cases he
    | true=>
      rw [ah] at he;simp only [apu] at he;have kx:T.get .bad eH r=.bad:=by
       cases aG:T.get .bad eH r<;>rw [aG] at ah<;>first
        | rfl
        | cases ah
      cases bs:res.run r h with
      | none=>rw [bs] at he;cases he
      | some ag=>
        rw [bs] at he;simp only [tB.go.injEq] at he;obtain ⟨rfl,rfl⟩:=he;exact ⟨e,r,ag,rfl,hE,kx,bs,rfl⟩
   cases e with
   | normal=>exact main he (.inl rfl)
   | ret=>exact main he (.inr rfl)
   | exit id=>cases he
theorem ak2 {c:Code} {s:Hi} (h:F8 c=some s):∃id cX ck args types,c=.seq (.region id #[cX,ck] false) s.rest/\cX.dst=some s.d/\cX.op=.call ⟨.builtin .recover,args,types⟩/\cX.guard=none/\ck.dst=some s.e/\ck.op=.assign s.x/\ck.guard=none:=by
 unfold F8 at h
 split at h
 case h_2=>cases h
 rename_i id ops rest
 split at h
 case h_2=>cases h
 rename_i cX ck aA
 split at h
 case h_2=>cases h
 rename_i d args types e x aa ad aJ bu cV fX;cases h;have ael:ops=#[cX,ck]:=by apply aq9;simp [aA]
 subst ael;exact ⟨id,cX,ck,_,_,rfl,aa,ad,aJ,bu,cV,fX⟩
theorem aaC (cJ:C.P.follows .mixedOrders=true) (bE:ec C.P) {ex:hQ} (hex:tv C.P ex):zO C.P (DJ C.P ex):=by
 intro f args u h fu ab he;unfold DJ at he;cases av:C.P.funcs[f]? with
 | none=>rw [av] at he;cases he
 | some fn=>
   rw [av] at he;simp only at he;cases ah:fn.body with
   | none=>rw [ah] at he;cases he
   | some c=>
     rw [ah] at he;simp only at he;refine ⟨⟨fn,rfl,by rw [ah];rfl⟩,fun ay E w xs m aA hu s=>?_⟩;cases fb:Nat.ble fn.ntmps top with
     | false=>rw [fb] at he;cases he
     | true=>
       rw [fb] at he;simp only [apu] at he;rw [apE] at fb;unfold PF at he;cases ku:Nat.ble args.length fn.ntmps with
       | false=>rw [ku] at he;cases he
       | true=>
         rw [ku] at he;simp only [apu] at he;rw [apE] at ku;have k:=P_ aA ku fb;cases aC:F8 c with
         | none=>
           rw [aC] at he;simp only at he;obtain ⟨e,r,ag,aj,hE,t',bs,rfl⟩:=PE he;refine CallsDIn.mono (callsDIn_of_wp (R:=fun e w'=>∃ar x,e=.returned x/\E.le ar/\a8 ay ar ab w') av ah trivial ?_) fun cC dj w' az=>?_
           . refine (hex fn.ntmps c none ay _ h (.inl rfl) E _ w k s _ ?_).wp;rw [aj];intro ar bl w' ak al aI;have aH:bl.defers=[]:=by have:=al.defers;rw [t'] at this;exact this
             obtain ⟨x,cc,cx⟩:=LC (P:=C.P) al.toRegRel0 aI bs;rcases hE with rfl | rfl<;>exact ⟨aH,x,cc,ar,x,rfl,ak,aI⟩
           . obtain ⟨rfl,ar,x,rfl,ak,aI⟩:=az;exact ⟨ar,x,rfl,ak,by rw [hu.settle];exact hu.mono ak,aI⟩
         | some c7=>
           rw [aC] at he;simp only at he;cases gX:(eI fn.ntmps (some c7.d)&&eI fn.ntmps (some c7.e)) with
           | false=>rw [gX] at he;cases he
           | true=>
             rw [gX] at he;simp only [apu] at he;simp only [apq] at gX;obtain ⟨e,r,ag,aj,hE,t',bs,rfl⟩:=PE he;obtain ⟨id,cX,ck,UE,rt,rfl,g1,g2,g3,g4,g5,g6⟩:=ak2 aC;refine callsDIn_of_wpSIn av ah trivial fun vu cs IZ=>wpSIn_seq (wpSIn_region ?_)
             obtain ⟨X,dh,nF,ic,dj,mU,aeH⟩:∃X,Rel E (u.getD .nilIface) X/\∃nF,(match recoverD (vu::cs) with
              | some (v,aak)=>v=X/\aak=nF
              | none=>X=.nilIface/\nF=vu::cs)/\∃dj,nF={vu with mode:=dj}::cs/\settle dj=.returning:=by
              cases u with
              | none=>
                simp only [kZ] at hu;subst hu;refine ⟨.nilIface,rfl,vu::cs,?_,.returning,?_,rfl⟩
                . simp only [recoverD,IZ];exact ⟨trivial,trivial⟩
                . rw [<-IZ]
              | some v=>
                obtain ⟨x,aj,rfl⟩:=hu;refine ⟨x,aj,{vu with mode:=.panicking [{v:=x,recovered:=true}]}::cs,?_,.panicking [{v:=x,recovered:=true}],rfl,rfl⟩;simp only [recoverD,IZ];exact ⟨trivial,trivial⟩
             have b7:=k.put gX.1 dh;have cj:=b7.put gX.2 (dx b7.toRegRel0 c7.x);rw [<-g1] at cj;rw [<-g4] at cj
             have yw:=(hex fn.ntmps c7.rest none ay _ h (.inl rfl) E _ w cj s (fun cC bl w'=>bodyPostS C.P fn vu cs (fun e dj w'=>∃ar x,e=.returned x/\E.le ar/\kZ ar none (settle dj)/\a8 ay ar ab w') cC bl nF w') (by
              have:UJ c7 u (mG 0 args .e)=(ft ck.dst).run ((ft cX.dst).run (mG 0 args .e) (u.getD .nilIface)) ((bS c7.x).run ((ft cX.dst).run (mG 0 args .e) (u.getD .nilIface))):=by rw [g1,g4];rfl
              rw [<-this,aj];intro ar bl w' ak al aI;have aH:bl.defers=[]:=by have:=al.defers;rw [t'] at this;exact this
              obtain ⟨x,cc,cx⟩:=LC (P:=C.P) al.toRegRel0 aI bs
              rcases hE with rfl | rfl<;>exact ⟨aH,dj,mU,x,cc,ar,x,rfl,ak,aeH,aI⟩)).wp
             have R_:=wpSIn_of_wpIn (F:=b4 none) rfl yw;have p0:∀y,Region.wanted cX y=true:=fun y=>by simp [Region.wanted,g3]
             have uo:∀y,Region.wanted ck y=true:=fun y=>by simp [Region.wanted,g6]
             have aeD:∀(ρ:Operand->Value),(execOp ρ cX).run C.P w=.ok .recover w:=fun ρ=>by obtain ⟨dst,op,type,pos,after,guard⟩:=cX;simp only at g2;subst g2;rfl
             have Bq:∀(ρ:Operand->Value),(execOp ρ ck).run C.P w=.ok (.value (ρ c7.x)) w:=fun ρ=>by obtain ⟨dst,op,type,pos,after,guard⟩:=ck;simp only at g5;subst g5;rfl
             have cq:(#[cX,ck]:Array Oper).size=2:=rfl;rw [cq];simp only [List.range_succ,List.range_zero,aqk,apS,wpOpsSIn];have dw:(#[cX,ck]:Array Oper)[0]? =some cX:=rfl;have aK:(#[cX,ck]:Array Oper)[1]? =some ck:=rfl;rw [dw];simp only [p0,ap3,aeD];refine ⟨fun _ _=>trivial,?_⟩;cases R1:recoverD (vu::cs) with
             | none=>
               rw [R1] at ic;obtain ⟨ac8,oM⟩:=ic;subst ac8 oM;simp only [aK,uo,ap3,Bq];exact ⟨fun _ _=>trivial,R_⟩
             | some L9=>
               obtain ⟨v,anT⟩:=L9;rw [R1] at ic;obtain ⟨rfl,rfl⟩:=ic;simp only [aK,uo,ap3,Bq];exact ⟨fun _ _=>trivial,R_⟩
end
end
theorem Vd:∀(xs:List V) (x:V),Gw (xs++[x])=some (xs,x)
 | [],x=>rfl
 | [y],x=>rfl
 | y::z::xs,x=>by have:=Vd (z::xs) x;simp only [apS] at this ⊢;simp only [Gw,this]
theorem RegRel0.putAt {E:Env} {aq:Nat} {r:bC} {t:Array Value} {ds:List Deferred} (k:RegRel0 E aq r ⟨t,ds⟩) {d:Nat} (aH:d<aq) (aE:d<=top) {v:V} {x:Value} (bs:Rel E v x):
 RegRel0 E aq (T.put .bad v (aw d) r) ⟨t.setIfInBounds d x,ds⟩:=by
 refine ⟨by simp only [Array.size_setIfInBounds];exact k.size,fun j bp=>?_⟩;rw [T.hW];have cq:=k.size;simp only at cq;by_cases h:d=j
 . subst h;rw [apz rfl];simp [apQ,cq,aH,bs]
 . rw [apw (fun e=>h (hN e))];have:=k.au j bp;simpa [apQ,apI,h] using this
theorem Up {E:Env} {aq:Nat} {ds:List Deferred}:∀(bn:List Nat) (ag:List V) (xs:List Value) (r:bC) (t:Array Value),s6 aq bn=true->bf E ag xs->RegRel0 E aq r ⟨t,ds⟩->
 RegRel0 E aq (wZ bn ag r) ⟨(bn.zip xs).foldl (fun t (p:Nat × Value)=>t.setIfInBounds p.1 p.2) t,ds⟩
 | [],ag,xs,r,t,_,_,k=>by cases ag<;>exact k
 | p::bn,[],xs,r,t,_,aA,k=>by simp only [bf] at aA;subst aA;exact k
 | p::bn,v::ag,xs,r,t,af,aA,k=>by obtain ⟨y,cp,rfl,a6,aA⟩:=aA;simp only [s6,arh,apq,apR,apE] at af;simp only [wZ,List.zip_cons_cons,List.foldl_cons];exact Up bn ag cp _ _ af.2 aA (k.putAt af.1.1 af.1.2 a6)
theorem akI {E:Env} {aq:Nat} {ds:List Deferred} {bn:Array Nat} {ag:List V} {xs:List Value} {r:bC} {t:Array Value} (af:s6 aq bn.toList=true) (aA:bf E ag xs) (k:RegRel0 E aq r ⟨t,ds⟩):
 RegRel0 E aq (wZ bn.toList ag r) ⟨(bn.zip xs.toArray).foldl (fun t (p:Nat × Value)=>t.setIfInBounds p.1 p.2) t,ds⟩:=by
 rw [<-Array.foldl_toList,Array.toList_zip];exact Up bn.toList ag xs r t af aA k
theorem RegRel0.X5 {E:Env} {aq:Nat} {r:bC} {a:Act} (k:RegRel0 E aq r a) (v:V):RegRel0 E aq (T.put .bad v eH r) a:=
 ⟨k.size,fun t aE=>by rw [T.hW,apw (fun e=>wU aE e.symm)];exact k.au t aE⟩
section
variable {C:Ctx}
theorem abR (bE:ec C.P) (cJ:C.P.follows .mixedOrders=true) {ex:hQ} (hex:tv C.P ex) {f:FuncId} {args:List V} {h:ae} {ay:Fr} {E:Env} {w:World} {xs:List Value} (aA:bf E args xs) (s:a8 ay E h w) {R:Ending->World->Prop}
 (af:rZ ay E R ((Iu C.P f).run ex args h)):(∃fn,C.P.funcs[f]? =some fn/\fn.body.isSome=true)/\Calls C.P f xs.toArray w R:=by
 unfold Iu at af;cases av:C.P.funcs[f]? with
 | none=>rw [av] at af;exact af.elim
 | some fn=>
   rw [av] at af;simp only at af;cases ah:fn.body with
   | none=>rw [ah] at af;exact af.elim
   | some c=>
     rw [ah] at af;simp only at af;refine ⟨⟨fn,rfl,by rw [ah];rfl⟩,?_⟩;cases fb:Nat.ble fn.ntmps top with
     | false=>rw [fb] at af;exact af.elim
     | true=>
       rw [fb] at af;simp only [apu] at af;rw [apE] at fb;unfold QE at af;cases ku:Nat.ble args.length fn.ntmps with
       | false=>rw [ku] at af;exact af.elim
       | true=>
         rw [ku] at af;simp only [apu] at af;rw [apE] at ku;have k:=P_ aA ku fb;have ky:=aaC (C:=C) cJ bE hex;refine sf.1 (callsIn_of_wp_marks (F:=b4 none) (n:=0) av ah trivial ?_);refine (hex fn.ntmps c none ay _ h (.inl rfl) E _ w k s _ ?_).wp;cases aC:ex fn.ntmps c (mG 0 args .e) h with
         | fail=>rw [aC] at af;exact af
         | cK v r aa=>
           rw [aC] at af;intro ar bl w' x ak al aI bB;exact D6 (u:=some v) bE ky al ⟨x,aI,rfl⟩ bB (rZ.up ak af)
         | ok e r aa=>
           rw [aC] at af;intro ar bl w' ak al aI;have main:rZ ay E R (finish (kR C.P fn.ntmps fn.results.toList) r (mn (DJ C.P ex) (T.get .bad eH r).list none aa))->LeavesInM (b4 none) 0 C.P fn bl.tmps R bl.defers .returning w':=by intro af;exact D6 (u:=none) bE ky al rfl aI (rZ.up ak af)
           cases e with
           | normal=>exact main af
           | ret=>exact main af
           | exit id=>exact af.elim
theorem D' (bE:ec C.P) (cJ:C.P.follows .mixedOrders=true) (gx:pk C) {ex:hQ} (hex:tv C.P ex) {f:FuncId} {args:List V} {h:ae} {ay:Fr} {E:Env} {w:World} {xs:List Value} (aA:bf E args xs) (s:a8 ay E h w) {R:Ending->World->Prop}
 (af:rZ ay E R ((x6 C f).run ex args h)):(∃fn,C.P.funcs[f]? =some fn/\fn.body.isSome=true)/\Calls C.P f xs.toArray w R:=by
 unfold x6 at af;cases az:C.Li f with
 | none=>rw [az] at af;exact abR bE cJ hex aA s af
 | some p=>
   rw [az] at af;simp only at af;cases aC:p.run args h with
   | fail=>rw [aC] at af;exact af.elim
   | cK _ _=>rw [aC] at af;exact af.elim
   | val v ab=>
     rw [aC] at af;obtain ⟨aa,ad⟩:=gx.1 f p args h v ab az aC;refine ⟨aa,(ad ay E w xs aA s).mono fun e w' az=>?_⟩;obtain ⟨ar,x,rfl,ak,al,aI⟩:=az;exact af ar x w' ak al aI
theorem a8.loop {P:Program} {ay:Fr} {E:Env} {h:ae} {w:World} (s:a8 ay E h w) {b:aL} {l eS:Aa} {p:jb} {o b2:Loop} (aG:h.get b=.fi l) (af:E b=some p) (cD:ay.w.heap.size<=p.aW) (a':w.heap[p.aW]? =some (.loop o)) (aC:vd E eS b2):
 (setObj p.aW (.loop b2)).run P w=.ok () {w with heap:=w.heap.setIfInBounds p.aW (.loop b2)}/\a8 ay E (h.set b (.fi eS)) {w with heap:=w.heap.setIfInBounds p.aW (.loop b2)}:=by
 have kE:=(apt.1 a').1;refine ⟨by simp only [setObj,Sem.run,a'],s.set (p:=p) (by rw [aG];rfl) af cD (by simp) (fun j bp=>?_) rfl rfl rfl (fun _ _ _ e=>by cases e) ?_⟩
 . simp only [apI];rw [apw (fun e=>bp e.symm)]
 . exact ⟨p,b2,af,cD,by simp [kE],aC⟩
theorem run_getLoop {P:Program} {r:Nat} {w:World} {o:Loop} (a':w.heap[r]? =some (.loop o)):(Instr.getLoop r).run P w=.ok o w:=by
 have:(getObj r).run P w=.ok (.loop o) w:=by simp only [getObj,Sem.run,a']
 simp only [Instr.getLoop,Sem.run_bind,this,Result.andThen_ok,Sem.run_pure]
theorem alg {ay:Fr} {E:Env} {h ab:ae} {w:World} {b:aL} {p:jb} {e:cO} {v:V} {P:Program} {R:Ending->World->Prop} {a:Act} (s:a8 ay E h w) (af:E b=some p) (he:Cp b e h=.val v ab)
 (cQ:∀x w',Rel E v x->a8 ay E ab w'->R (.returned x) w'):roundPost P p.aW R (toExit e) a w:=by
 unfold Cp at he;have ah:=s.at af;cases aG:h.get b<;>rw [aG] at he ah<;>simp only at he<;>try (cases he;done)
 rename_i l;obtain ⟨p',o,gZ,cD,a',aC⟩:=ah;rw [af] at gZ;cases gZ;have vT:=run_getLoop (P:=P) a';obtain ⟨bM,dc,ct,cL,bT,eU,cY,ch⟩:=aC;cases e with
 | normal=>
   simp only [a7.val.injEq] at he;obtain ⟨rfl,rfl⟩:=he;obtain ⟨aa,ad⟩:=s.loop (P:=P) (eS:=⟨0,none,l.d,l.aq,l.r,l.bn,l.assign,l.body⟩) (b2:={o with state:=.ready,pending:=none}) aG af cD a' ⟨rfl,rfl,ct,cL,bT,eU,cY,ch⟩;refine ⟨.bool true,_,?_,cQ _ _ rfl ad⟩;simp only [Instr.endRound,Sem.run_bind,vT,Result.andThen_ok,Option.isNone_none,ap3,aa,Sem.run_pure]
 | ret=>
   simp only [a7.val.injEq] at he;obtain ⟨rfl,rfl⟩:=he;obtain ⟨aa,ad⟩:=s.loop (P:=P) (eS:=⟨2,some .ret,l.d,l.aq,l.r,l.bn,l.assign,l.body⟩) (b2:={o with state:=.done,pending:=some .ret}) aG af cD a' ⟨rfl,rfl,ct,cL,bT,eU,cY,ch⟩;refine ⟨.bool false,_,?_,cQ _ _ rfl ad⟩;simp only [Instr.endRound,Sem.run_bind,vT,Result.andThen_ok,Option.isNone_some,apH,ap9,aa,Sem.run_pure]
 | exit id=>
   simp only [a7.val.injEq] at he;obtain ⟨rfl,rfl⟩:=he;obtain ⟨aa,ad⟩:=s.loop (P:=P) (eS:=⟨2,some (.exit id),l.d,l.aq,l.r,l.bn,l.assign,l.body⟩) (b2:={o with state:=.done,pending:=some (.exit id)}) aG af cD a' ⟨rfl,rfl,ct,cL,bT,eU,cY,ch⟩;refine ⟨.bool false,_,?_,cQ _ _ rfl ad⟩;simp only [Instr.endRound,Sem.run_bind,vT,Result.andThen_ok,Option.isNone_some,apH,ap9,aa,Sem.run_pure]
theorem alh {P:Program} {ex:hQ} (hex:tv P ex) {ay:Fr} {E:Env} {h ab:ae} {w:World} {args:List V} {xs:List Value} {b:aL} {p:jb} {v:V} (he:Co ex args b h=.val v ab) (aA:bf E args xs) (s:a8 ay E h w) (af:E b=some p):
 ∃f tmps assign body,(Instr.yield p.aW xs.toArray).run P w=.ok (.round p.aW f tmps assign body) w/\
  RoundIn (b4 none) 0 P p.aW f tmps assign body w fun e w'=>∃ar x,e=.returned x/\E.le ar/\Rel ar v x/\a8 ay ar ab w':=by
 unfold Co at he;have ah:=s.at af;cases aG:h.get b<;>rw [aG] at he ah<;>simp only at he<;>try (cases he;done)
 rename_i l;obtain ⟨p',o,gZ,cD,a',aC⟩:=ah;rw [af] at gZ;cases gZ;obtain ⟨bM,dc,ct,cL,bT,eU,cY,ch⟩:=aC;obtain ⟨ao,he⟩:=j0 he;simp only [apq,apV] at ao;obtain ⟨bK,bR,c3,hU⟩:=ao;have hlen:=aA.length;have hq:o.params.size=xs.length:=by rw [<-Array.length_toList,ct,hlen,bK]
 refine ⟨o.fn,(o.params.zip xs.toArray).foldl (fun tmps (t,a)=>tmps.setIfInBounds t a) o.tmps,o.assign,o.body,?_,?_⟩
 . simp only [Instr.yield,Sem.run_bind,run_getLoop a',Result.andThen_ok];rw [apw (by simp [hq])];rfl
 . rw [cL,bT];refine roundIn_of_wpIn (F:=b4 none) trivial ?_;have jK:RegRel0 E l.aq l.r ⟨o.tmps,[]⟩:=⟨eU,cY⟩;rw [<-ct] at bR he;have b7:=(akI bR aA jK).X5 .bad;have k:e8 E l.aq (T.put .bad .bad eH (wZ o.params.toList args l.r)) ⟨(o.params.zip xs.toArray).foldl (fun t (p:Nat × Value)=>t.setIfInBounds p.1 p.2) o.tmps,[]⟩:=⟨b7,by rw [T.hW,apz rfl];simp [lz]⟩
   have ae3:=hex l.aq l.assign (some p.aW) ay _ h (.inr c3) E _ w k s (Exit.then (fun vo xh=>∃VZ,(Instr.beginRound p.aW).run P xh=.ok () VZ/\
    l.body.wpIn (b4 (some p.aW)) 0 P (roundPost P p.aW fun e w'=>∃ar x,e=.returned x/\E.le ar/\Rel ar v x/\a8 ay ar ab w') vo VZ) (fun _ _ _=>False))
   refine (ae3 ?_).wp;cases aj:ex l.aq l.assign (T.put .bad .bad eH (wZ o.params.toList args l.r)) h with
   | fail=>rw [aj] at he;cases he
   | cK _ _ _=>rw [aj] at he;cases he
   | ok e akQ aa=>
     rw [aj] at he;cases e<;>simp only at he<;>try (cases he;done)
     intro gr bD bW ak al aI;unfold Gf at he;have kD:=ak _ _ af;have kv:=aI.at kD;cases Rv:aa.get b<;>rw [Rv] at he kv<;>simp only at he<;>try (cases he;done)
     rename_i eX;obtain ⟨cc,cX,RU,vH,q6,wc⟩:=kv;rw [kD] at RU;cases RU;obtain ⟨cz,he⟩:=j0 he;rw [apV] at cz;obtain ⟨t1,t2,t3,t4,t5,t6,t7,t8⟩:=wc;obtain ⟨g1,g2⟩:=aI.loop (P:=P) (eS:=⟨1,eX.hd,eX.d,eX.aq,eX.r,eX.bn,eX.assign,eX.body⟩) (b2:={cX with state:=.busy}) Rv kD vH q6 ⟨rfl,t2,t3,t4,t5,t6,t7,t8⟩;refine ⟨{bW with heap:=bW.heap.setIfInBounds p.aW (.loop {cX with state:=.busy})},?_,?_⟩
     . have JP:cX.state=.ready:=by rw [t1,cz];rfl
       simp only [Instr.beginRound,Sem.run_bind,run_getLoop q6,Result.andThen_ok,g1,JP,Sem.run_pure]
     . refine (hex l.aq l.body (some p.aW) ay _ _ (.inr hU) gr _ _ al g2 _ ?_).wp;cases yE:ex l.aq l.body akQ (aa.set b (.fi ⟨1,eX.hd,eX.d,eX.aq,eX.r,eX.bn,eX.assign,eX.body⟩)) with
       | fail=>rw [yE] at he;cases he
       | cK _ _ _=>rw [yE] at he;cases he
       | ok aS aoZ ad=>
         rw [yE] at he;simp only at he;intro bA a2 bx bJ z2 z3;exact alg z3 (bJ _ _ kD) he fun x w' dz fo=>⟨bA,x,rfl,ak.trans bJ,dz,fo⟩
theorem Zx (cJ:C.P.follows .mixedOrders=true) (bE:ec C.P) (gx:pk C) {ex:hQ} (hex:tv C.P ex):gq C.P (se C ex) where
 fn:=by
  intro ay f args h v ab av he E w xs aA s;unfold se at he;rw [hi,apw av] at he;cases aj:C.ext f with
  | some p=>
    rw [aj] at he;simp only at he;cases aC:p.run args h with
    | fail=>rw [aC] at he;cases he
    | cK _ _=>rw [aC] at he;cases he
    | val v1 aa=>
      rw [aC] at he;simp only [a7.KU,a7.val.injEq] at he;obtain ⟨rfl,rfl⟩:=he;exact .inr (gx.2 f p args h _ _ aj aC ay E w xs aA s)
  | none=>
  rw [aj] at he;simp only at he;exact .inl (D' bE cJ gx hex aA s (by rw [he];exact fun ar x w' ak al aI=>⟨ar,x,rfl,ak,al,aI⟩))
 cK:=by
  intro ay f args h v ab av he E w xs aA s;unfold se at he;rw [hi,apw av] at he;cases aj:C.ext f with
  | some p=>
    rw [aj] at he;simp only at he;cases aC:p.run args h<;>rw [aC] at he<;>cases he
  | none=>
  rw [aj] at he;simp only at he;exact D' bE cJ gx hex aA s (by rw [he];exact fun ar x w' ak al aI=>⟨ar,x,rfl,ak,al,aI⟩)
 V2:=by intro ay args b h v ab he E w xs p aA s af;unfold se at he;rw [hi,apz rfl] at he;unfold LF at he;rw [Vd] at he;exact alh hex he aA s af
 V3:=by
  intro args h v ab he;unfold se at he;rw [hi,apz rfl] at he;have aK:∀b e h,Cp b e h≠.cK v ab:=by
   intro b e h he;unfold Cp at he
   split at he
   . cases e<;>cases he
   . cases he
  have aS:∀aq c b r h,Gf ex aq c b r h≠.cK v ab:=by
   intro aq c b r h he;unfold Gf at he
   split at he
   case h_2=>cases he
   rename_i l aA;cases ao:Nat.beq l.st 0 with
   | false=>rw [ao] at he;cases he
   | true=>
     rw [ao] at he;simp only [apu] at he
     split at he
     . exact aK _ _ _ he
     . cases he
  have bU:∀xs b h,Co ex xs b h≠.cK v ab:=by
   intro xs b h he;unfold Co at he
   split at he
   case h_2=>cases he
   rename_i l aA;cases ao:(Nat.beq xs.length l.bn.length&&(s6 l.aq l.bn&&(noMark l.assign&&noMark l.body))) with
   | false=>rw [ao] at he;cases he
   | true=>
     rw [ao] at he;simp only [apu] at he
     split at he
     case h_2=>cases he
     rename_i e r aa _;cases e<;>simp only at he<;>try (cases he;done)
     exact aS _ _ _ _ _ he
  unfold LF at he
  split at he
  case h_2=>cases he
  split at he
  case h_2=>cases he
  exact bU _ _ _ he
end
section
variable {C:Ctx}
theorem abv {P:Program} {e:cO} {Q:Exit->Act->World->Prop} {a:Act} {w:World} (h:Q (toExit e) a w):(Ir e).wpIn (b4 none) 0 P Q a w:=by
 cases e with
 | normal=>exact wpIn_skip h
 | exit id=>exact wpIn_exit h
 | ret=>exact wpIn_ret h
theorem akY (cJ:C.P.follows .mixedOrders=true) (bE:ec C.P) (gx:pk C) {ex:hQ} (hex:tv C.P ex) {f:Operand} {bn:Array Tmp} {assign body:Code} {aq:Nat} {ay:Fr} {E:Env} {r:bC} {h:ae} {a:Act} {w:World} {Q:Exit->Act->World->Prop}
 (k:e8 E aq r a) (s:a8 ay E h w) (af:xD ay E aq Q (Lt (fun g args h=>(x6 C g).run ex args h) (bS f) bn.toList aq assign body r h)):(Code.rangeFunc f bn assign body).wpIn (b4 none) 0 C.P Q a w:=by
 unfold Lt at af;have av:=dx k.toRegRel0 f;generalize (bS f).run r=xc at af av;cases xc<;>simp only at af<;>try (exact af.elim)
 rename_i g cs;rw [hi] at af;by_cases aG:g=dr
 . rw [apz aG] at af;exact af.elim
 . rw [apw aG] at af;simp only [Rel] at av;rcases av with ⟨_,eG,dh,aA⟩ | ⟨Jc,_⟩
   case inr=>exact absurd Jc aG
   refine wpIn_rangeFunc fun fn _=>?_;have f0:=s.fresh h.next (apv _)
   obtain ⟨gr,vI⟩:∃gr,gr=E.put (aw h.next) ⟨w.heap.size,0,0⟩:=⟨_,rfl⟩;obtain ⟨bW,p0⟩:∃bW:World,bW={w with heap:=w.heap.push (.deferred (some []))}:=⟨_,rfl⟩;have Bn:gr (aw h.next)=some ⟨w.heap.size,0,0⟩:=by rw [vI];unfold Env.put;rw [apz rfl]
   have s1:a8 ay gr (h.new .hj) bW:=by rw [vI,p0];refine s.alloc 0 ⟨⟨w.heap.size,0,0⟩,by unfold Env.put;rw [apz rfl],s.frame.size,by simp⟩
   have oY:E.le gr:=by rw [vI];exact Env.mm f0
   have wk:bW.heap.size=w.heap.size+1:=by rw [p0];simp
   obtain ⟨o,aU⟩:∃o:Loop,o={state:=.ready,pending:=none,fn,tmps:=a.tmps,params:=bn,assign,body,defers:=w.heap.size}:=⟨_,rfl⟩;obtain ⟨bA,k6⟩:∃bA,bA=gr.put (aw (h.next+1)) ⟨bW.heap.size,0,0⟩:=⟨_,rfl⟩;obtain ⟨bx,uo⟩:∃bx:World,bx={bW with heap:=bW.heap.push (.loop o)}:=⟨_,rfl⟩;have f1:gr (aw (h.next+1))=none:=s1.fresh (h.next+1) (apv _);have lK:gr.le bA:=by rw [k6];exact Env.mm f1
   have Bo:bA (aw (h.next+1))=some ⟨bW.heap.size,0,0⟩:=by rw [k6];unfold Env.put;rw [apz rfl]
   have fi:vd bA ⟨0,none,aw h.next,aq,r,bn.toList,assign,body⟩ o:=by subst aU;exact ⟨rfl,rfl,rfl,rfl,rfl,k.size,fun t aE=>Rel.mono (oY.trans lK) _ _ (k.au t aE),_,lK _ _ Bn,rfl⟩
   have s2:a8 ay bA ((h.new .hj).new (.fi ⟨0,none,aw h.next,aq,r,bn.toList,assign,body⟩)) bx:=by rw [k6,uo];refine s1.alloc 0 ⟨⟨bW.heap.size,0,0⟩,o,by show gr.put (aw (h.next+1)) _ (aw (h.next+1))=_;unfold Env.put;rw [apz rfl],by show ay.w.heap.size<=bW.heap.size;rw [wk];have:=s.frame.size;omega,by simp,?_⟩;have:=fi;rw [k6] at this;exact this
   obtain ⟨hL,pS⟩:∃hL,hL=bW.heap.size:=⟨_,rfl⟩;have a6:Rel bA (.func dr [.ptr (aw (h.next+1)) 0]) (.func (.yield hL) #[] #[]):=by simp only [Rel];exact .inr ⟨trivial,_,_,rfl,Bo,by rw [pS]⟩
   have nL:bf bA (.func dr [.ptr (aw (h.next+1)) 0]::cs) (.func (.yield hL) #[] #[]::eG.toList):=by simp only [bf];exact ⟨_,_,rfl,a6,bf.mono (oY.trans lK) _ _ aA⟩
   have cb:=D' (C:=C) bE cJ gx hex (f:=g) nL s2 (R:=rangePost (b4 none) 0 C.P hL Q {a with defers:=[{target:=.collected w.heap.size,args:=#[]}]++a.defers});cases aC:(x6 C g).run ex (.func dr [.ptr (aw (h.next+1)) 0]::cs) ((h.new .hj).new (.fi ⟨0,none,aw h.next,aq,r,bn.toList,assign,body⟩)) with
   | fail=>rw [aC] at af;exact af.elim
   | cK _ _=>rw [aC] at af;exact af.elim
   | val v ab=>
     rw [aC] at af cb;simp only at af;obtain ⟨⟨It,ho,ah⟩,ao⟩:=cb (by
      intro ar x w' ak al aI;simp only [rangePost];unfold UF at af;have db:=ak _ _ Bo;have ah:=aI.at db;cases vT:ab.get (aw (h.next+1))<;>rw [vT] at af ah<;>simp only at af<;>try (exact af.elim)
      rename_i l;obtain ⟨p',b2,gZ,cD,a',q'⟩:=ah;rw [db] at gZ;cases gZ;obtain ⟨t1,t2,t3,t4,t5,t6,t7,t8⟩:=q';rw [hi] at af;by_cases cz:l.st=1
      . rw [apz cz] at af;exact af.elim
      . rw [apw cz] at af;simp only at a';rw [<-pS] at a';have Jz:(b2.state == LoopState.busy)=false:=by
         rw [t1]
         match j6:l.st with
         | 0=>rfl
         | 1=>exact absurd j6 cz
         | n+2=>rfl
        have kE:=(apt.1 a').1
        let i':World:={w' with heap:=w'.heap.setIfInBounds hL (.loop {b2 with state:=.exhausted})}
        have fO:(Instr.endLoop hL).run C.P w'=.ok b2.pending i':=by
         have pZ:(setObj hL (.loop {b2 with state:=.exhausted})).run C.P w'=.ok () i':=by simp only [setObj,Sem.run,a'];rfl
         simp only [Instr.endLoop,Sem.run_bind,run_getLoop a',Result.andThen_ok,Jz,apH,ap9,pZ,Sem.run_pure]
        have n_:a8 ay ar (ab.set (aw (h.next+1)) .dead) i':=by refine aI.gone (p:=⟨bW.heap.size,0,0⟩) (by rw [vT];rfl) db cD (by simp [i']) (fun j bp=>?_) rfl rfl rfl;simp only at bp;simp only [i',apI];rw [apw (fun e=>bp (by rw [<-e,pS]))]
        have hH:e8 ar aq (T.put .bad (.tuple (.ptr (aw h.next) 0::(T.get .bad eH r).list)) eH r) {a with defers:=[{target:=.collected w.heap.size,args:=#[]}]++a.defers}:=by
         refine ⟨⟨k.size,fun t aE=>?_⟩,?_⟩
         . rw [T.hW,apw (fun e=>wU aE e.symm)];exact Rel.mono (oY.trans (lK.trans ak)) _ _ (k.au t aE)
         . rw [T.hW,apz rfl];simp only [lz,ns,apS,aqk];exact ⟨_,_,rfl,⟨_,ak _ _ (lK _ _ Bn),rfl⟩,(k.defers.mono (oY.trans (lK.trans ak))).list⟩
        refine ⟨b2.pending,i',fO,?_⟩;rw [t2];cases j8:l.hd with
        | none=>
          rw [j8] at af;exact af ar _ i' (oY.trans (lK.trans ak)) hH n_
        | some e=>
          rw [j8] at af;exact abv (af ar _ i' (oY.trans (lK.trans ak)) hH n_))
     refine ⟨hL,[{target:=.collected w.heap.size,args:=#[]}],bx,{target:=.fn (.func g) eG,args:=#[]++#[.func (.yield hL) #[] #[]]},bx,g,_,bx,?_,?_,fun _ _=>trivial,?_,fun h=>by simp at h,sf.2 ao⟩
     . subst aU uo p0;have he:=run_enterLoop_outer (P:=C.P) (w:=w) fn a.tmps bn assign body;rw [World.alloc,World.alloc] at he;simp only [Array.size_push] at pS ⊢;rw [pS];exact he
     . simp only [resolve,dh,Deferred.ofValue,Sem.run_pure];simp [Act.eval]
     . simp only [invoke];have e:(#[]++#[Value.func (.yield hL) #[] #[]]:Array Value)++eG=(Value.func (.yield hL) #[] #[]::eG.toList).toArray:=by apply aq9;simp
       rw [e];exact uV bE ho ah _ bx
theorem zt {P:Program} {b:Frame} {a:Act} {k:List Item} {cs:List Frame} {w:World} {c:Code}:
 step P (lone (b.atR a (.code (.scope c)::k)) cs w)=.next (lone (b.atR a (.code c::.inScope c::k)) cs w):=
 step_lone_go (by simp [stepG,stepG.exec,Frame.atR])
theorem al5 {P:Program} {b:Frame} {a:Act} {k:List Item} {cs:List Frame} {w:World} {c:Code}:
 step P (lone (b.atR a (.inScope c::k)) cs w)=.next (lone (b.atR a k) cs w):=
 step_lone_go (by simp [stepG,stepG.exec,Frame.atR])
theorem LK {P:Program} {rd:Option Nat} {c:Code} {Q:Exit->Act->World->Prop} {a:Act} {w:World} (h:c.wpIn (b4 rd) 0 P (Exit.noGoto Q) a w):(Code.scope c).wpIn (b4 rd) 0 P Q a w:=by
 intro b k cs j9 ah aC;obtain ⟨e,vo,xh,az,ib⟩:=h b (.inScope c::k) cs j9 ah aC;have aj:∀id,exitTo id (.inScope c::k)=exitTo id k:=fun id=>by simp [exitTo]
 cases e with
 | normal=>exact ⟨.normal,vo,xh,az,.head (pH _) zt (StepsIn.trans ib (.one (pH _) al5))⟩
 | exit id=>exact ⟨.exit id,vo,xh,az,fun br aB=>.head (pH _) zt (ib.1 br (by rw [aj];exact aB)),fun sG aB=>let ⟨k₁,aa,ad⟩:=ib.2 sG (by rw [aj];exact aB);⟨k₁,aa,.head (pH _) zt ad⟩⟩
 | goto l=>exact az.elim
 | ret=>exact ⟨_,vo,xh,az,.of_steps (.one (pH _) zt) ib⟩
 | panic anR=>exact ⟨_,vo,xh,az,.of_steps (.one (pH _) zt) ib⟩
 | outgrown=>exact ⟨_,vo,xh,az,.of_steps (.one (pH _) zt) ib⟩
theorem Z4 (cJ:C.P.follows .mixedOrders=true) (bE:ec C.P) (gx:pk C) {ex:hQ} (hex:tv C.P ex) (aq:Nat):∀c:Code,Mr C.P aq c ((je C aq c).run ex):=by
 have cb:=Zx cJ bE gx hex;have dC:=Zw (C:=C) ex;intro c
 induction c with
 | skip=>
   intro rd ay r h aC E a w k s Q af;exact wpIn_skip (af E a w (Env.le.refl E) k s)
 | label l=>
   intro rd ay r h aC E a w k s Q af;exact wpIn_label (af E a w (Env.le.refl E) k s)
 | exit id=>
   intro rd ay r h aC E a w k s Q af;exact wpIn_exit (af E a w (Env.le.refl E) k s)
 | ret=>
   intro rd ay r h aC E a w k s Q af;exact wpIn_ret (af E a w (Env.le.refl E) k s)
 | region id ops draw=>
   intro rd ay r h aC E a w k s Q af;have lift:∀x:om,xD ay E aq Q (match x with | .ok a_ ab=>.ok .normal a_ ab | .cK v a_ ab=>.cK v a_ ab | .fail=>.fail)->nA ay E aq (Q .normal) Q x:=by intro x aj;cases x<;>exact aj
   cases draw with
   | true=>
     simp only [je,apu,F9] at af;exact aaK cJ bE cb dC (lift _ af) k s
   | false=>
     simp only [je,apA,F9] at af;refine wpIn_region ?_;have:=TX (rd:=rd) (Q:=Q) bE cb dC ops.toList 0 (fun j=>by simp) (aC.imp (fun h=>h) fun h=>by simpa only [noMark,apU] using h) E r h a w (lift _ af) k s;rw [List.range_eq_range'];simpa using this
 | seq x y p2 p3=>
   intro rd ay r h aC E a w k s Q af;simp only [je,U1] at af;have yx:rd=none\/noMark x=true:=aC.imp (fun h=>h) fun h=>by simp only [noMark,apq] at h;exact h.1
   have JW:rd=none\/noMark y=true:=aC.imp (fun h=>h) fun h=>by simp only [noMark,apq] at h;exact h.2
   refine wpIn_seq (p2 rd ay r h yx E a w k s _ ?_).wp;cases aj:(je C aq x).run ex r h with
   | fail=>rw [aj] at af;exact af
   | cK v bM aa=>rw [aj] at af;exact af
   | ok aK bM aa=>
     rw [aj] at af;simp only at af;intro ar bl w' ak al aI;cases aK with
     | normal=>exact (p3 rd ay bM aa JW ar bl w' al aI Q (af.up ak)).wp
     | exit id=>exact af ar bl w' ak al aI
     | ret=>exact af ar bl w' ak al aI
 | cond c x y p2 p3=>
   intro rd ay r h aC E a w k s Q af;simp only [je,Pr] at af;have yx:rd=none\/noMark x=true:=aC.imp (fun h=>h) fun h=>by simp only [noMark,apq] at h;exact h.1
   have JW:rd=none\/noMark y=true:=aC.imp (fun h=>h) fun h=>by simp only [noMark,apq] at h;exact h.2
   have ao:=dx k.toRegRel0 c;cases bs:(bS c).run r<;>rw [bs] at af ao<;>simp only at af<;>try (exact af.elim)
   rename_i t;simp only [Rel] at ao;cases t with
   | true=>exact wpIn_cond_true ao (p2 rd ay r h yx E a w k s Q af).wp
   | false=>exact wpIn_cond_false ao (p3 rd ay r h JW E a w k s Q af).wp
 | block id x bb=>
   intro rd ay r h aC E a w k s Q af;simp only [je,Nz] at af;refine wpIn_block (bb rd ay r h (aC.imp (fun h=>h) fun h=>h) E a w k s _ ?_).wp;cases aj:(je C aq x).run ex r h with
   | fail=>rw [aj] at af;exact af
   | cK v bM aa=>rw [aj] at af;exact af
   | ok aK bM aa=>
     rw [aj] at af;simp only at af;intro ar bl w' ak al aI;cases aK with
     | normal=>exact af ar bl w' ak al aI
     | ret=>exact af ar bl w' ak al aI
     | exit i=>
       simp only [hi] at af;simp only [toExit,Exit.inBlock];by_cases ax:i=id
       . rw [apz ax] at af ⊢;exact af ar bl w' ak al aI
       . rw [apw ax] at af ⊢;exact af ar bl w' ak al aI
 | loop x bb=>
   intro rd ay r h aC E a w k s Q af;simp only [je,Tc] at af;have yx:rd=none\/noMark x=true:=aC.imp (fun h=>h) fun h=>h;intro b cT cs j9;cases aj:(je C aq x).run ex r h with
   | fail=>rw [aj] at af;exact af.elim
   | cK v bM aa=>
     rw [aj] at af;have body:=(bb rd ay r h yx E a w k s (fun cC bl w'=>∃y,cC=.panic y/\Q cC bl w') (by rw [aj];exact fun ar bl w' x ak al aI bB=>⟨_,rfl,af ar bl w' x ak al aI bB⟩)).wp b (.inLoop x::cT) cs j9 trivial (Ge _);obtain ⟨aS,a2,bx,⟨y,rfl,q⟩,ib⟩:=body;exact ⟨_,a2,bx,q,.pass (x:=.inLoop x) rfl (fun _ _=>.inl (by simp)) ib⟩
   | ok aK bM aa=>
     rw [aj] at af;simp only at af;have body:=(bb rd ay r h yx E a w k s
      (fun cC bl w'=>cC=toExit aK/\∃ar,E.le ar/\e8 ar aq bM bl/\a8 ay ar aa w') (by rw [aj];exact fun ar bl w' ak al aI=>⟨rfl,ar,ak,al,aI⟩)).wp b (.inLoop x::cT) cs j9 trivial (Ge _)
     obtain ⟨aS,a2,bx,⟨rfl,bA,ak,al,aI⟩,ib⟩:=body;cases aK with
     | normal=>
       have next:=hex aq (.loop x) rd ay bM aa aC bA a2 bx al aI Q (af.up ak)
       obtain ⟨bU,a3,np,cc,cx⟩:=next b cT cs j9
       exact ⟨bU,a3,np,cc,.of_steps (StepsIn.trans ib (.one (pH _) stepR_inLoop)) cx⟩
     | exit id=>exact ⟨.exit id,a2,bx,af bA a2 bx ak al aI,.pass (x:=.inLoop x) rfl (fun _ _=>.inl (by simp)) ib⟩
     | ret=>exact ⟨.ret,a2,bx,af bA a2 bx ak al aI,.pass (x:=.inLoop x) rfl (fun _ _=>.inl (by simp)) ib⟩
 | scope x bb=>
   intro rd ay r h aC E a w k s Q af;simp only [je] at af;refine LK (bb rd ay r h (aC.imp (fun h=>h) fun h=>h) E a w k s _ ?_).wp;cases aj:(je C aq x).run ex r h with
   | fail=>rw [aj] at af;exact af
   | cK v bM aa=>rw [aj] at af;exact af
   | ok aK bM aa=>
     rw [aj] at af;intro ar bl w' ak al aI;have:=af ar bl w' ak al aI;cases aK<;>exact this
 | rangeFunc f bn x y _ _=>
   intro rd ay r h aC E a w k s Q af;rcases aC with rfl | aC
   case inr=>cases aC
   simp only [je] at af;exact akY cJ bE gx hex k s af
 | goto l=>intro rd ay r h aC E a w k s Q af;exact af.elim
 | refuse VS=>intro rd ay r h aC E a w k s Q af;exact af.elim
end
section
variable {C:Ctx}
theorem Qo (cJ:C.P.follows .mixedOrders=true) (bE:ec C.P) (gx:pk C):∀n,tv C.P (exec C n)
 | 0=>fun aq c rd ay r h aC E a w k s Q af=>af.elim
 | n+1=>fun aq c=>Z4 cJ bE gx (Qo cJ bE gx n) aq c
theorem HV (cJ:C.P.follows .mixedOrders=true) (bE:ec C.P) (gx:pk C) {n:Nat} {f:FuncId} {args:List V} {h ab:ae} {v:V} (av:Nat.beq f dr=false) (aj:C.ext f=none) (he:sd C n f args h=.val v ab)
 {ay:Fr} {E:Env} {w:World} {xs:List Value} (aA:bf E args xs) (s:a8 ay E h w):
 (∃fn,C.P.funcs[f]? =some fn/\fn.body.isSome=true)/\Calls C.P f xs.toArray w fun e w'=>∃ar x,e=.returned x/\E.le ar/\Rel ar v x/\a8 ay ar ab w':=by
 unfold sd se at he;rw [av,apA,aj] at he;simp only at he;exact D' bE cJ gx (Qo cJ bE gx n) aA s (by rw [he];exact fun ar x w' ak al aI=>⟨ar,x,rfl,ak,al,aI⟩)
theorem Gp (w:World) (hw:Lay.ok w):a8 ⟨w,fun _=>none⟩ (fun _=>none) ae.empty w:=by
 refine ⟨fun b _=>?_,fun _ _ h=>(by cases h),(fun b bL p p' _ _ h=>by cases h),fun _ _=>rfl,Below.refl _ _,hw,(fun _ _ _ _ _ _ h=>by cases h)⟩;have:ae.empty.get b=.dead:=by simp [ae.get,ae.empty]
 rw [this];trivial
theorem amI (cJ:C.P.follows .mixedOrders=true) (bE:ec C.P) {w:World} (hw:Lay.ok w) (gx:pk C) {n:Nat} {f:FuncId} (av:Nat.beq f dr=false) (aj:C.ext f=none) (h:L6 C n f []=true):
 Calls C.P f #[] w fun e w'=>e=.returned (.bool true)/\Below w.heap.size w w':=by
 unfold L6 at h;cases ao:sd C n f [] ae.empty with
 | fail=>rw [ao] at h;cases h
 | cK _ _=>rw [ao] at h;cases h
 | val v a'=>
   rw [ao] at h;simp only at h;cases v<;>simp only at h<;>try (cases h;done)
   subst h;obtain ⟨_,fJ⟩:=HV cJ bE gx av aj ao (ay:=⟨w,fun _=>none⟩) (E:=fun _=>none) (w:=w) (xs:=[]) rfl (Gp w hw);refine fJ.mono fun e w' az=>?_;obtain ⟨ar,x,rfl,_,al,aI⟩:=az;simp only [Rel] at al;subst al;exact ⟨rfl,aI.frame⟩
end
end
section
open Go Go.RowKit Go.ChangeShapes Go.WideShapes
variable [Lay]
section
variable {H:Type} {enc:TypeId × Value->H} {P:Program}
theorem ZZ {f:FuncId} {fn:Func} {s:ChangeSpec} {Cw:TypeId} (dp:fn.params=#[]) (R9:s.vars=[]) (aeC:fn.resultTypes=#[Cw]) (aeU:P.underlying Cw=some .bool)
 (JY:s.fn H []={results:=[.lit (.bool true)],args:=[]})
 (cb:∀w,Lay.ok w->Calls P f #[] w fun e w'=>e=.returned (.bool true)/\Below w.heap.size w w')
 {W:World} {args:Array Value} {ds gs:List (DataW H)} {before:List MemPlace} (k9:Lay.ok W)
 (yg:DataW.Whole enc P fn.params.toList s.vars false W args.toList ds gs before):
 Calls P f args W fun e Ae=>∃v,e=.returned v/\s.post enc P fn false true false false W args v Ae:=by
 have ac7:=yg;obtain ⟨p,q,jF,Rb,rfl,q4,oP⟩:=yg;rw [R9] at Rb;obtain ⟨rfl,rfl⟩:=trodVars_none Rb;rw [dp] at jF;have nL:args=#[]/\ds=[]/\p=[]:=by
  cases aA:args.toList with
  | cons y cp=>rw [aA] at jF;cases ds<;>exact jF.elim
  | nil=>
    rw [aA] at jF;cases ds with
    | cons d ds=>exact jF.elim
    | nil=>exact ⟨aq9 aA,rfl,jF⟩
 obtain ⟨rfl,rfl,rfl⟩:=nL;refine (cb W k9).mono fun e Ae ⟨he,Yc⟩=>?_;subst he;refine ⟨_,rfl,[],[],[]++[],[],[],[],ac7,?_,?_,?_,Yc.frame _,fun h=>by cases h⟩
 . rw [aqF,JY,aeC];exact trodAll_mk1 (shut_bool aeU _)
 . rw [aqF,JY,dp];rfl
 . rw [aqF,JY,R9];rfl
end
end
section
open Go Go.RowKit
variable [Lay]
theorem a8.below {ay:Fr} {E:Env} {h:ae} {w w':World} (s:a8 ay E h w) (ah:Below w.heap.size w w'):a8 ay E h w':=by
 have cq:ay.w.heap.size<=w.heap.size:=s.frame.size;have eR:∀(k:Nat) (o:Obj),w.heap[k]? =some o->w'.heap[k]? =some o:=by
  intro k o aB;rw [ah.block k,aB];by_cases aR:k<w.heap.size
  . exact aR
  . rw [ara (by omega)] at aB;cases aB
 refine ⟨fun b af=>?_,s.n5,s.inj,s.fresh,s.frame.trans (ah.mono cq),s.laid,s.base⟩;have:=s.aW b af;cases aB:h.get b<;>rw [aB] at this<;>simp only [fv] at this ⊢
 . obtain ⟨ak,p,c,el,bZ,al,aI,bB,cG⟩:=this;exact ⟨ak,p,c,el,bZ,al,aI,eR _ _ bB,cG⟩
 . obtain ⟨ak,p,c,el,bZ,al,aI,bB,cG⟩:=this;exact ⟨ak,p,c,el,bZ,al,aI,eR _ _ bB,cG⟩
 . obtain ⟨p,ak,al,aI,bB⟩:=this;exact ⟨p,ak,al,aI,eR _ _ bB⟩
 . obtain ⟨p,a,ak,al,aI,bB⟩:=this;exact ⟨p,a,ak,al,eR _ _ aI,bB⟩
 . obtain ⟨p,o,ak,al,aI,bB⟩:=this;exact ⟨p,o,ak,al,eR _ _ aI,bB⟩
 . obtain ⟨p,ak,al,aI⟩:=this;exact ⟨p,ak,al,eR _ _ aI⟩
 . obtain ⟨p,a,c,l,ak,al,aI,bB⟩:=this;exact ⟨p,a,c,l,ak,al,eR _ _ aI,bB⟩
 . obtain ⟨p,m,a,ak,al,aI,bB,cG⟩:=this;exact ⟨p,m,a,ak,al,aI,eR _ _ bB,cG⟩
theorem ahU {P:Program} {f:FuncId} {args:List V} {v:V} {h:ae} (H:∀E xs w,Lay.ok w->bf E args xs->Calls P f xs.toArray w fun e w'=>∃x,e=.returned x/\Rel E v x/\Below w.heap.size w w')
 (ay:Fr) (E:Env) (w:World) (xs:List Value) (aj:bf E args xs) (s:a8 ay E h w):Calls P f xs.toArray w fun e w'=>∃ar x,e=.returned x/\E.le ar/\Rel ar v x/\a8 ay ar h w':=by
 refine (H E xs w (Lay.eR s.laid s.frame) aj).mono fun e w' q=>?_;obtain ⟨x,rfl,bs,ah⟩:=q;exact ⟨E,x,rfl,Env.le.refl E,bs,s.below ah⟩
theorem abx {P:Program} {f:FuncId} {fn:Func} {e:Array Value->Sem Value} (av:P.funcs[f]? =some fn) (aV:(fn.name == "runtime.NumGoroutine")=false) (ah:fn.body.isNone=true) (aa:Extern.findNext fn=none) (ad:Extern.find fn=some e)
 {xs:Array Value} {x:Value} {w:World} (aC:(e xs).run P w=.ok x w):(callFunc f xs).run P w=.ok (.value x) w:=by
 simp only [callFunc,Sem.run_bind,run_program,Result.andThen_ok,av];rw [apw (by rw [aV];simp),apz ah];simp only [Sem.run_bind,aa,ad];have hm:(mark (.extern f)).run P w=.ok () w:=rfl;rw [hm];simp only [Result.andThen_ok,aC,Sem.run_pure]
def BG (c:Nat):List UInt8->Nat->Int
 | [],_=>-1
 | b::l,i=>bif Nat.beq b.toNat c then .ofNat i else BG c l (i+1)
theorem Sv (c:Nat) (ao:c<256):∀(l:List UInt8) (i:Nat),BG c l i=if Lib.indexByte l c.toUInt8=-1 then -1 else Lib.indexByte l c.toUInt8+i
 | [],i=>by simp [BG,Lib.indexByte]
 | b::l,i=>by
   have ie:=Lib.indexByte_ge l c.toUInt8;have pM:(b.toNat=c)↔(b == c.toUInt8)=true:=by
    rw [aqZ,<-arw];have:c.toUInt8.toNat=c:=by show c % 256=c;omega
    rw [this]
   have e:Lib.indexByte (b::l) c.toUInt8=if (b == c.toUInt8)=true then 0 else if (Lib.indexByte l c.toUInt8 == -1)=true then -1 else Lib.indexByte l c.toUInt8+1:=rfl;simp only [BG,Sv c ao l (i+1),hi];by_cases h:b.toNat=c
   . rw [apz (pM.1 h)] at e;rw [apz h,e];simp
   . rw [apw (fun e=>h (pM.2 e))] at e;rw [apw h];by_cases ad:Lib.indexByte l c.toUInt8=-1
     . rw [ad] at e;simp only [beq_self_eq_true,ap3] at e;simp [ad,e]
     . have aJ:(Lib.indexByte l c.toUInt8 == -1)=false:=by simpa using ad
       rw [aJ] at e;simp only [apH,ap9] at e;rw [apw ad,e,apw (by omega)];omega
def preB:List UInt8->List UInt8->Bool
 | [],_=>true
 | _::_,[]=>false
 | a::x,b::y=>bif Nat.beq a.toNat b.toNat then preB x y else false
theorem Lg:∀(x y:List UInt8),preB x y=x.isPrefixOf y
 | [],y=>by cases y<;>rfl
 | _::_,[]=>rfl
 | a::x,b::y=>by
   simp only [preB,List.isPrefixOf,hi,Lg x y];by_cases h:a.toNat=b.toNat
   . have:a=b:=arw.1 h;subst this;simp
   . have:(a == b)=false:=by
      rw [aqL];exact fun e=>h (by rw [e])
     rw [apw h,this];rfl
def hasB:List UInt8->List UInt8->Bool
 | [],sub=>preB sub []
 | b::l,sub=>bif preB sub (b::l) then true else hasB l sub
theorem Rd:∀(s sub:List UInt8),hasB s sub=Lib.contains s sub
 | [],sub=>by simp only [hasB,Lg,Lib.contains,Lib.index];cases sub<;>simp
 | b::l,sub=>by
   simp only [hasB,Lg];have bb:=Rd l sub;unfold Lib.contains at bb ⊢;unfold Lib.index;cases h:sub.isPrefixOf (b::l) with
   | true=>simp
   | false=>
     simp only [apA,apH,ap9,bb];have ie:=Lib.index_ge l sub;cases ad:(Lib.index l sub == -1) with
     | true=>
       have:Lib.index l sub=-1:=by simpa using ad
       simp [this]
     | false=>
       have:Lib.index l sub≠-1:=by simpa using ad
       simp only [apH,ap9];rw [aqm,apF,apF];omega
def H5:C':=⟨fun args h=>match args with
 | [x,y]=>(match x with
   | .str s=>(match y with
     | .str sub=>bif Nat.ble s.length 100000 then .val (.bool (hasB s sub)) h else .fail
     | _=>.fail)
   | _=>.fail)
 | _=>.fail⟩
theorem aaa {args:List V} {h ab:ae} {v:V} (he:H5.run args h=.val v ab):∃s sub,args=[.str s,.str sub]/\s.length<=100000/\v=.bool (Lib.contains s sub)/\ab=h:=by
 simp only [H5] at he
 split at he
 case h_2=>cases he
 split at he
 case h_2=>cases he
 split at he
 case h_2=>cases he
 obtain ⟨ao,aa⟩:=j0 he;simp only [a7.val.injEq] at aa;obtain ⟨rfl,rfl⟩:=aa;exact ⟨_,_,rfl,ap5 ao,by rw [Rd],rfl⟩
def E8:C':=⟨fun args h=>match args with
 | [x,y]=>(match x with
   | .str s=>(match y with
     | .int k c=>bif pD k .u8&&(Int.leB 0 c&&Nat.blt c.toNat 256) then .val (.int .i64 (BG c.toNat s 0)) h else .fail
     | _=>.fail)
   | _=>.fail)
 | _=>.fail⟩
theorem afu {args:List V} {h ab:ae} {v:V} (he:E8.run args h=.val v ab):∃s c,args=[.str s,.int .u8 c]/\v=.int .i64 (Lib.indexByte s c.toNat.toUInt8)/\ab=h:=by
 simp only [E8] at he
 split at he
 case h_2=>cases he
 split at he
 case h_2=>cases he
 split at he
 case h_2=>cases he
 rename_i s _ k c;obtain ⟨ao,aa⟩:=j0 he;simp only [apq,apR] at ao;have aB:=tR ao.1;subst aB;simp only [a7.val.injEq] at aa;obtain ⟨rfl,rfl⟩:=aa;refine ⟨s,c,rfl,?_,rfl⟩;rw [Sv _ ao.2.2];by_cases h:Lib.indexByte s c.toNat.toUInt8=-1
 . rw [apz h,h]
 . rw [apw h];simp
theorem aft {P:Program} {f:FuncId} {fn:Func} (av:P.funcs[f]? =some fn) (aV:(fn.name == "runtime.NumGoroutine")=false) (ah:fn.body.isNone=true) (aa:Extern.findNext fn=none) (ad:Extern.find fn=some Extern.BytealgIndexByte.indexByte)
 {args:List V} {h ab:ae} {v:V} (he:E8.run args h=.val v ab) (ay:Fr) (E:Env) (w:World) (xs:List Value) (aj:bf E args xs) (s:a8 ay E h w):
 ∃ar x w',(callFunc f xs.toArray).run P w=.ok (.value x) w'/\E.le ar/\Rel ar v x/\a8 ay ar ab w':=by
 obtain ⟨t,c,rfl,rfl,rfl⟩:=afu he;obtain ⟨y,cp,rfl,ak,z,u5,rfl,al,rfl⟩:=aj;simp only [Rel] at ak al;subst ak al;exact ⟨E,_,w,abx av aV ah aa ad (Lib.run_indexByteString _ _ _),Env.le.refl E,by simp [Rel],s⟩
theorem ak_ {H:Type} {enc:TypeId × Value->H} {a:Assume} {C:Checked} {os:Os} {f:FuncId} {fn:Func} {s:ChangeSpec} {conds:List PathCond} {apart fresh handsOn again:Bool} {X:World->Array Value->Prop}
 (dh:∀(w w':World) (args:Array Value),w.heap=w'.heap->X w args->X w' args)
 (own:ownKnob C.prog.godebug=none) (started:os.Started) (ajo:C.prog.inits.idxOf? f=none) (ho:C.prog.funcs[f]? =some fn)
 (witness:∃(w:World) (tape:Tape) (i:Input),w.os=os/\(w.forCall tape i).Shaped C.prog/\i.vars=[]/\Input.okWide C.prog (w.forCall tape i) .any w.heap.size f i/\
   ((s.pre enc C.prog fn conds apart (w.forCall tape i).memory i.args/\X (w.forCall tape i).memory i.args)/\sizedMet enc C.prog fn (OpenSpec.ofChange s) apart (w.forCall tape i).memory i.args)/\a.holds C.prog (lone (Frame.enter C.prog f i.args .normal) [] (w.forCall tape i)))
 (aad:∀(W:World) (base:Nat) (args:Array Value) (ds gs:List (DataW H)) (before:List MemPlace),
   (∀(j:Nat) t v,fn.params[j]? =some t->args[j]? =some v->Value.okWide C.prog W .any base t v)->
   DataW.Whole enc C.prog fn.params.toList s.vars apart W args.toList ds gs before->
   X W args->W.ShapedOpen C.prog->
   Calls C.prog f args W fun e Ae=>∃v,e=.returned v/\s.post enc C.prog fn apart fresh handsOn again W args v Ae):
 ReturnsInHanded a C os f .any (fun w args=>(s.pre enc C.prog fn conds apart w args/\X w args)/\sizedMet enc C.prog fn (OpenSpec.ofChange s) apart w args) (s.post enc C.prog fn apart fresh handsOn again):=by
 refine returnsInHanded_of_calls own started ajo witness ?_;intro w tape i _ Br _ bz oR aof;obtain ⟨_,_,_,It,adK,_,_,_,_,Bu⟩:=bz;have e:It=fn:=aqB (adK.symm.trans ho);subst e;obtain ⟨⟨⟨ds,gs,before,hw,ao⟩,aj⟩,bk⟩:=oR;have jo:=DataW.Whole.of_heap (w':=w.forCall tape i) (by rfl) hw;refine (aad (w.forCall tape i) w.heap.size i.args ds gs before Bu jo (dh _ _ _ (by rfl) aj) Br).mono fun e Ae ⟨v,he,af⟩=>?_;subst he;exact ChangeSpec.post_blind af
end
end Go.Proofs.YtgmhjhgoamjeeaaGreatDoor.aX
