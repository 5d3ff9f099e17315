/- The abstract machine and its walks (a verified interpreter of the model's code: plain definitions and lemmas, no condition). Printed by a program from longer texts: names made short. -/
import Derived.Test.YtjbiefneffiogaaGreatM3
import Derived.ChangeArms
import Derived.DataReads
import Derived.ChangeBears
import Derived.Carry
import Derived.OpenShut
import Derived.ChangeSame
import Derived.Handed
import Derived.HandedShaped
import Derived.Test.YtjbiefneffiogaaGreatM1
import Derived.Shelf.SlIterI.Sorted
import Derived.Shelf.SlIterI.Nil
import Derived.WideShapes
set_option linter.unusedSectionVars false
set_option linter.unusedSimpArgs false
set_option linter.unusedVariables false
namespace Go.Proofs.YtjbiefneffiogaaGreat.ba
variable [Lay]
open Go Go.RowKit
theorem bQ.below {aJ:Fr} {E:Env} {h:ag} {w aC:World} (s:bQ aJ E h w) (ah:Below w.heap.size w aC):bQ aJ E h aC:=by
 have eC:aJ.w.heap.size≤w.heap.size:=s.frame.size
 have fx:∀(k:Nat) (o:Obj),w.heap[k]? =some o→aC.heap[k]? =some o:=by
  intro k o al
  rw [ah.block k,al]
  by_cases aS:k<w.heap.size
  · exact aS
  · rw [Array.getElem?_eq_none (by omega)] at al
    cases al
 refine ⟨fun b aH=>?_,s.o6,s.inj,s.fresh,s.frame.trans (ah.mono eC),s.laid,s.base⟩
 have:=s.a_ b aH
 cases al:h.get b<;>rw [al] at this<;>simp only [h0] at this ⊢
 · obtain ⟨aG,p,c,el,b3,az,aW,bZ,dW⟩:=this
   exact ⟨aG,p,c,el,b3,az,aW,fx _ _ bZ,dW⟩
 · obtain ⟨aG,p,c,el,b3,az,aW,bZ,dW⟩:=this
   exact ⟨aG,p,c,el,b3,az,aW,fx _ _ bZ,dW⟩
 · obtain ⟨p,aG,az,aW,bZ⟩:=this
   exact ⟨p,aG,az,aW,fx _ _ bZ⟩
 · obtain ⟨p,a,aG,az,aW,bZ⟩:=this
   exact ⟨p,a,aG,az,fx _ _ aW,bZ⟩
theorem SE {P:Program} {f:FuncId} {v:V} (a6:∀E x,x=.bool true→Rel E v x) (xr:∃fn,P.funcs[f]? =some fn∧fn.body.isSome=true) (H:∀w,Lay.ok w→Calls P f #[] w fun e aC=>e=.returned (.bool true)∧Below w.heap.size w aC) (h:ag):
 ma P f [] h v h:=by
 refine .inl ⟨xr,fun aJ E w xs an s=>?_⟩
 simp only [bA] at an
 subst an
 refine (H w (Lay.fx s.laid s.frame)).mono fun e aC q=>?_
 obtain ⟨rfl,ah⟩:=q
 exact ⟨E,_,rfl,fun _ _ q=>q,a6 E _ rfl,s.below ah⟩
noncomputable def qd (E:Env) (h:ag) (p:lJ):Env:=fun b=>if b=ak h.next then some p else E b
theorem OH (E:Env) (h:ag) (p:lJ):qd E h p (ak h.next)=some p:=if_pos rfl
theorem Gg {aJ:Fr} {E:Env} {h:ag} {w:World} (s:bQ aJ E h w) (p:lJ):E.le (qd E h p):=fun b q aM=>by
 unfold qd
 rw [if_neg (fun e=>by rw [e,s.fresh _ (Nat.le_refl _)] at aM;cases aM)]
 exact aM
theorem ab7 {W:World} {E:Env} {h:ag} (s:bQ ⟨W,fun _=>none⟩ E h W) (p:lJ) (k:cp) (bt:k.own=false) (al:h0 W.heap.size (qd E h p) W (ak h.next) k):
 bQ ⟨W,fun _=>none⟩ (qd E h p) (h.new k) W:=by
 refine ⟨fun b _=>?_,fun _ _ h=>(by cases h),fun b bN q dm ab af aL bo aM=>?_,fun i ax=>?_,s.frame,s.laid,fun b q n cs st ab aL=>by
  rw [dT] at ab
  by_cases ed:ak h.next=b
  · rw [if_pos ed] at ab;rw [ab] at bt;cases bt
  · rw [if_neg ed] at ab
    unfold qd at aL
    rw [if_neg (fun e=>ed e.symm)] at aL
    exact s.base _ _ _ _ _ ab aL⟩
 · rw [dT]
   by_cases e:ak h.next=b
   · subst e
     rw [if_pos rfl]
     exact al
   · rw [if_neg e]
     exact (s.a_ b rfl).mono (Gg s p)
 · rw [dT] at ab af
   by_cases ed:ak h.next=b
   · rw [if_pos ed,bt] at ab;cases ab
   · by_cases fu:ak h.next=bN
     · rw [if_pos fu,bt] at af;cases af
     · rw [if_neg ed] at ab
       rw [if_neg fu] at af
       unfold qd at aL bo
       rw [if_neg (fun e=>ed e.symm)] at aL
       rw [if_neg (fun e=>fu e.symm)] at bo
       exact s.inj b bN q dm ab af aL bo aM
 · rw [cH] at ax
   unfold qd
   rw [if_neg (fun e=>by have:=l6 e;omega)]
   exact s.fresh i (by omega)
theorem ab8 {W:World} {E:Env} {h:ag} (s:bQ ⟨W,fun _=>none⟩ E h W) {k base cap:Nat} {c:Array Value} {el:TypeId} {b3:Nat × Nat} (al:W.heap[k]? =some (.cells c el b3)) {ad:List V}
 (aA:base+ad.length≤c.size) (aT:∀i v y,ad[i]? =some v→c[base+i]? =some y→Rel E v y):
 bQ ⟨W,fun _=>none⟩ (qd E h ⟨k,base,cap⟩) (h.new (.ro ad)) W:=by
 refine ab7 s _ _ rfl ?_
 have aS:k<W.heap.size:=by
  by_cases aS:k<W.heap.size
  · exact aS
  · rw [Array.getElem?_eq_none (by omega)] at al
    cases al
 refine ⟨trivial,⟨k,base,cap⟩,c,el,b3,OH _ _ _,aS,al,aA,fun i y ax br=>?_⟩
 have:T.get .bad (ak i) (fC .e 0 ad)=ad[i]:=by
  have:=zQ ad 0 i .e
  rw [Nat.zero_add] at this
  rw [this,if_pos ax,List.getElem?_eq_getElem ax]
  rfl
 rw [this]
 exact Rel.mono (Gg s _) _ _ (aT i _ y (List.getElem?_eq_getElem ax) br)
section
variable (P:Program)
def we:List Field→Nat→Option Nat
 | [],o=>some o
 | f::bw,o=>if f.offset=o then we bw (o+P.cellsOf f.type) else none
def uo:Bool:=(List.range P.types.size).all fun t=>match P.underlying t with
 | some (.struct bw)=>decide (we P bw.toList 0=some (P.cellsOf t))
 | _=>true
def de (h:ag):Nat→Nat→TypeId→List V→Prop
 | 0,_,_,_=>False
 | n+1,m,t,ad=>match P.underlying t with
   | some .bool=>∃b,ad=[.bool b]
   | some (.int k)=>∃i,ad=[.int k i]∧(Lit.int k i).wf=true
   | some .string=>∃s:List UInt8,ad=[.str s]∧s.length+1≤m
   | some (.slice e)=>1≤m∧(ad=[.aF]∨(∃b i j k,ad=[.gN b i j k])∨P.cellsOf e=0∨
      ∃b len cap,ad=[.slice b 0 len cap]∧0<len∧len≤cap∧Old h b∧∃us,Rd h b us∧us.length=len * P.cellsOf e∧∃ms:List Nat,ms.length=len∧ms.sum+1≤m∧
       ∀(i k:Nat),ms[i]? =some k→1≤k∧de h n k e ((us.drop (i * P.cellsOf e)).take (P.cellsOf e)))
   | some (.struct bw)=>ad.length=P.cellsOf t∧∃ms:List Nat,ms.length=bw.toList.length∧ms.sum+1≤m∧∀(i:Nat) (f:Field) (k:Nat),bw.toList[i]? =some f→ms[i]? =some k→1≤k∧de h n k f.type ((ad.drop f.offset).take (P.cellsOf f.type))
   | some (.pointer e)=>1≤m∧(ad=[.cq]∨P.cellsOf e=0∨∃b,ad=[.ptr b 0]∧Old h b∧∃us,Rd h b us∧us.length=P.cellsOf e∧∃k,k+1≤m∧de h n k e us)
   | some (.map _ _)=>ad=[.hU]∨ad=[.bad]
   | some (.interface _)=>ad=[.nilIface]∨ad=[.bad]
   | _=>True
end
theorem de.ext {P:Program} {h aa:ag} (e:Ext h aa):∀(n m:Nat) (t:TypeId) (ad:List V),de P h n m t ad→de P aa n m t ad
 | 0,_,_,_,H=>H
 | n+1,m,t,ad,H=>by
   unfold de at H ⊢
   split at H<;>try exact H
   · refine ⟨H.1,?_⟩
     rcases H.2 with H | H | H | ⟨b,len,cap,ab,af,aK,e8,us,bT,b8,ms,fp,h8,mO⟩
     · exact .inl H
     · exact .inr (.inl H)
     · exact .inr (.inr (.inl H))
     · exact .inr (.inr (.inr ⟨b,len,cap,ab,af,aK,e.b4 e8,us,e.rd e8 bT,b8,ms,fp,h8,fun i k al=>⟨(mO i k al).1,de.ext e n _ _ _ (mO i k al).2⟩⟩))
   · obtain ⟨ab,ms,af,aK,bM⟩:=H
     exact ⟨ab,ms,af,aK,fun i f k au al=>⟨(bM i f k au al).1,de.ext e n _ _ _ (bM i f k au al).2⟩⟩
   · refine ⟨H.1,?_⟩
     rcases H.2 with H | H | ⟨b,ab,e8,us,bT,b8,k,fp,h8⟩
     · exact .inl H
     · exact .inr (.inl H)
     · exact .inr (.inr ⟨b,ab,e.b4 e8,us,e.rd e8 bT,b8,k,fp,de.ext e n _ _ _ h8⟩)
mutual
def fG {H:Type}:DataW H→Nat
 | .lit (.string bytes)=>bytes.length+1
 | .lit _=>1
 | .nil=>1
 | .ptr d=>fG d+1
 | .slice elems spare=>lg elems+lg spare+1
 | .agg parts=>lg parts+1
 | .iface _ d=>fG d+1
 | .map entries=>zl entries+1
 | .held _=>1
def lg {H:Type}:List (DataW H)→Nat
 | []=>0
 | d::r=>fG d+lg r
def zl {H:Type}:List (Lit × DataW H)→Nat
 | []=>0
 | x::r=>CS x+zl r
def CS {H:Type}:Lit × DataW H→Nat
 | (.string bytes,d)=>bytes.length+fG d+1
 | (_,d)=>fG d+1
end
theorem qA {H:Type} (d:DataW H):1≤fG d:=by
 cases d with
 | lit l=>cases l<;>simp [fG]
 | _=>simp [fG]
theorem CR {H:Type}:∀l:List (DataW H),lg l=(l.map fG).sum
 | []=>by simp [lg]
 | d::r=>by simp only [lg,List.map_cons,List.sum_cons,CR r]
theorem zp {w:World} {base:Nat} {a:Addr} {n:Nat} {l:List Value} (h:w.cells? base a n=some l):l.length=n∧∀i,i<n→w.cell? (a.add i)=l[i]? :=by
 unfold World.cells? at h
 split at h
 · exact ⟨by simpa using mapM_some_length h,fun i ax=>mapM_some_get h i i (by simp [ax])⟩
 · cases h
theorem NA {E aP:Env} (he:E.le aP) {ad:List V} {l:List Value} (H:bA E ad l):bA aP ad l:=bA.mono he ad l H
section
variable {H:Type} {enc:TypeId × Value→H} {P:Program} {W:World} {base:Nat} {sp:Nat→Bool} {held:Bool}
def qo (P:Program) (W:World) (n m:Nat) (t:TypeId) (cs:List Value):Prop:=
 ∀(E:Env) (h:ag),bQ ⟨W,fun _=>none⟩ E h W→∃aP aa ad,E.le aP∧Ext h aa∧bQ ⟨W,fun _=>none⟩ aP aa W∧bA aP ad cs∧ad.length=cs.length∧de P aa n m t ad
theorem LD (n size:Nat) (e:TypeId):∀(pieces:List (List Value)) (ms:List Nat),ms.length=pieces.length→(∀(i:Nat) (l:List Value) (k:Nat),pieces[i]? =some l→ms[i]? =some k→l.length=size∧qo P W n k e l)→
 ∀(E:Env) (h:ag),bQ ⟨W,fun _=>none⟩ E h W→∃aP aa us,E.le aP∧Ext h aa∧bQ ⟨W,fun _=>none⟩ aP aa W∧bA aP us pieces.flatten∧us.length=pieces.length * size∧
  ∀(i k:Nat),ms[i]? =some k→de P aa n k e ((us.drop (i * size)).take size)
 | [],[],_,_,E,h,s=>⟨E,h,[],fun _ _ q=>q,Ext.refl h,s,rfl,by simp,fun i k ax=>by simp at ax⟩
 | [],_::_,aB,_,_,_,_=>by simp at aB
 | _::_,[],aB,_,_,_,_=>by simp at aB
 | l::ls,m::ms,tg,aH,E,h,s=>by
   obtain ⟨aB,H⟩:=aH 0 l m rfl rfl
   obtain ⟨hI,ab,ad,bB,bJ,a3,a4,a5,kI⟩:=H E h s
   obtain ⟨ec,af,us,cJ,ct,eQ,ev,dR,hO⟩:=LD n size e ls ms (by simpa using tg) (fun i l k aG az=>aH (i+1) l k (by simpa using aG) (by simpa using az)) hI ab a3
   refine ⟨ec,af,ad++us,bB.trans cJ,bJ.trans ct,eQ,?_,?_,?_⟩
   · rw [List.flatten_cons]
     exact bA.append (NA cJ a4) ev
   · rw [List.length_append,dR,a5,aB,List.length_cons,Nat.add_mul]
     omega
   · intro i k ax
     cases i with
     | zero=>
       rw [Nat.zero_mul,List.drop_zero,List.take_left' (by rw [a5,aB])]
       simp only [List.getElem?_cons_zero,Option.some.injEq] at ax
       subst ax
       exact de.ext ct _ _ _ _ kI
     | succ i=>
       rw [Nat.add_mul,Nat.one_mul,Nat.add_comm,←List.drop_drop,List.drop_left' (by rw [a5,aB])]
       exact hO i k (by simpa using ax)
theorem LC (n:Nat):∀(bw:List Field) (ms:List Nat) (o dI:Nat) (cs:List Value),we P bw o=some dI→cs.length=dI→ms.length=bw.length→(∀(i:Nat) (f:Field) (k:Nat),bw[i]? =some f→ms[i]? =some k→qo P W n k f.type ((cs.drop f.offset).take (P.cellsOf f.type)))→
 o≤dI∧∀(E:Env) (h:ag),bQ ⟨W,fun _=>none⟩ E h W→∃aP aa ad,E.le aP∧Ext h aa∧bQ ⟨W,fun _=>none⟩ aP aa W∧bA aP ad (cs.drop o)∧ad.length=dI-o∧
  ∀(i:Nat) (f:Field) (k:Nat),bw[i]? =some f→ms[i]? =some k→o≤f.offset∧de P aa n k f.type ((ad.drop (f.offset-o)).take (P.cellsOf f.type))
 | [],_::_,_,_,_,_,_,tg,_=>by simp at tg
 | _::_,[],_,_,_,_,_,tg,_=>by simp at tg
 | [],[],o,dI,cs,aI,aB,_,_=>by
   simp only [we,Option.some.injEq] at aI
   subst aI
   refine ⟨Nat.le_refl _,fun E h s=>⟨E,h,[],fun _ _ q=>q,Ext.refl h,s,?_,by simp,fun i f k au=>by simp at au⟩⟩
   rw [List.drop_eq_nil_of_le (by omega)]
   rfl
 | f::bw,m::ms,o,dI,cs,aI,aB,tg,aH=>by
   simp only [we] at aI
   by_cases au:f.offset=o
   · rw [if_pos au] at aI
     obtain ⟨bF,bz⟩:=LC n bw ms (o+P.cellsOf f.type) dI cs aI aB (by simpa using tg) (fun i f k aG az=>aH (i+1) f k (by simpa using aG) (by simpa using az))
     refine ⟨by omega,fun E h s=>?_⟩
     have Vx:=aH 0 f m rfl rfl
     obtain ⟨hI,ab,ad,bB,bJ,a3,a4,a5,kI⟩:=Vx E h s
     obtain ⟨ec,af,us,cJ,ct,eQ,ev,dR,hO⟩:=bz hI ab a3
     have Et:ad.length=P.cellsOf f.type:=by rw [a5,List.length_take,List.length_drop,au];omega
     refine ⟨ec,af,ad++us,bB.trans cJ,bJ.trans ct,eQ,?_,?_,?_⟩
     · have e:cs.drop o=(cs.drop f.offset).take (P.cellsOf f.type)++cs.drop (o+P.cellsOf f.type):=by
        rw [au,←List.drop_drop,List.take_append_drop]
       rw [e]
       exact bA.append (NA cJ a4) ev
     · rw [List.length_append,Et,dR]
       omega
     · intro i g k a1 al
       cases i with
       | zero=>
         simp only [List.getElem?_cons_zero,Option.some.injEq] at a1 al
         subst a1 al
         refine ⟨by omega,?_⟩
         rw [au,Nat.sub_self,List.drop_zero,List.take_left' Et]
         exact de.ext ct _ _ _ _ kI
       | succ i=>
         obtain ⟨ed,fu⟩:=hO i g k (by simpa using a1) (by simpa using al)
         refine ⟨by omega,?_⟩
         rw [show g.offset-o=P.cellsOf f.type + (g.offset - (o+P.cellsOf f.type)) from by omega,←List.drop_drop,List.drop_left' Et]
         exact fu
   · rw [if_neg au] at aI
     cases aI
theorem Jm {w:World} {a:Addr} {y:Value} (h:w.cell? a=some y):a.spot=none∧∃c el b3,w.heap[a.block]? =some (.cells c el b3)∧c[a.off]? =some y:=by
 refine ⟨World.cell?_spot h,?_⟩
 unfold World.cell? at h
 split at h
 · rename_i c el b3 cv
   split at h
   · cases h
   · exact ⟨c,el,b3,cv,h⟩
 · cases h
theorem P5 (a:Addr) (n:Nat):(a.add n).block=a.block:=by unfold Addr.add;split<;>rfl
theorem P6 (a:Addr) (n:Nat):(a.add n).off=a.off+n:=by unfold Addr.add;split<;>simp_all
theorem abA {w:World} {a:Addr} {l:List Value} (ao:0<l.length) (h:∀i,i<l.length→w.cell? (a.add i)=l[i]?):
 a.spot=none∧∃c el b3,w.heap[a.block]? =some (.cells c el b3)∧a.off+l.length≤c.size∧∀i,i<l.length→c[a.off+i]? =l[i]? :=by
 have vd:w.cell? (a.add 0)=some l[0]:=by rw [h 0 ao];exact List.getElem?_eq_getElem ao
 obtain ⟨s1,c,el,b3,s2,iT⟩:=Jm vd
 have b5:a.add 0=a:=by unfold Addr.add;simp
 rw [b5] at s1 s2 iT
 have key:∀i,i<l.length→c[a.off+i]? =l[i]? :=by
  intro i ax
  have q:=h i ax
  rw [List.getElem?_eq_getElem ax] at q ⊢
  obtain ⟨_,lN,aef,aet,t2,t3⟩:=Jm q
  rw [P5,s2] at t2
  rw [P6] at t3
  simp only [Option.some.injEq,Obj.cells.injEq] at t2
  obtain ⟨rfl,_,_⟩:=t2
  exact t3
 refine ⟨s1,c,el,b3,s2,?_,key⟩
 have:=key (l.length-1) (by omega)
 rw [List.getElem?_eq_getElem (by omega)] at this
 have aS:=(Array.getElem?_eq_some_iff.1 this).1
 omega
theorem OI {E:Env} {h:ag} (s:bQ ⟨W,fun _=>none⟩ E h W) {a:Addr} {cap:Nat} {l:List Value} (ao:0<l.length) (aA:∀i,i<l.length→W.cell? (a.add i)=l[i]?) {us:List V} (aT:bA E us l):
 ∃aP aa b,E.le aP∧Ext h aa∧bQ ⟨W,fun _=>none⟩ aP aa W∧Old aa b∧a.spot=none∧aP b=some ⟨a.block,a.off,cap⟩∧Rd aa b us:=by
 obtain ⟨s1,c,el,b3,s2,iT,ss⟩:=abA ao aA
 have l0:us.length=l.length:=(bA.length aT).symm
 refine ⟨qd E h ⟨a.block,a.off,cap⟩,h.new (.ro us),ak h.next,Gg s _,(Ext.refl h).new _,ab8 s s2 (by omega) fun i v y a6 br=>?_,t_,s1,OH _ _ _,.inl (gT _)⟩
 have ax:i<l.length:=by
  have:=(List.getElem?_eq_some_iff.1 a6).1
  omega
 rw [ss i ax] at br
 obtain ⟨BI,aL,bo⟩:=bA.get aT i v a6
 rw [br] at aL
 simp only [Option.some.injEq] at aL
 rw [aL]
 exact bo
theorem J6 {α:Type} (size:Nat):∀(pieces:List (List α)) (i j:Nat),(∀l ∈ pieces,l.length=size)→i<pieces.length→j<size→pieces.flatten[i * size+j]? =(pieces[i]?).bind (·[j]?)
 | [],i,j,_,ax,_=>by simp at ax
 | l::ls,i,j,aH,ax,bC=>by
   have aB:l.length=size:=aH l (by simp)
   cases i with
   | zero=>
     rw [Nat.zero_mul,Nat.zero_add,List.flatten_cons,List.getElem?_append_left (by omega)]
     simp
   | succ i=>
     rw [List.flatten_cons,List.getElem?_append_right (by rw [aB,Nat.add_mul];omega)]
     rw [show (i+1) * size+j-l.length=i * size+j from by rw [aB,Nat.add_mul];omega]
     rw [J6 size ls i j (fun l aB=>aH l (by simp [aB])) (by simpa using ax) bC]
     simp
theorem Df {α:Type} (size:Nat):∀(pieces:List (List α)),(∀l ∈ pieces,l.length=size)→pieces.flatten.length=pieces.length * size
 | [],_=>by simp
 | l::ls,aH=>by
   rw [List.flatten_cons,List.length_append,Df size ls (fun l aB=>aH l (by simp [aB])),aH l (by simp),List.length_cons,Nat.add_mul]
   omega
theorem ML {α:Type} (R:Nat→α→Prop):∀(len:Nat),(∀i,i<len→∃l,R i l)→∃bX:List α,bX.length=len∧∀i l,bX[i]? =some l→R i l
 | 0,_=>⟨[],rfl,fun i l q=>by simp at q⟩
 | m+1,h=>by
   obtain ⟨bX,aG,az⟩:=ML R m (fun i ax=>h i (by omega))
   obtain ⟨l,ab⟩:=h m (by omega)
   refine ⟨bX++[l],by simp [aG],fun i fJ nH=>?_⟩
   by_cases ax:i<bX.length
   · rw [List.getElem?_append_left ax] at nH
     exact az i fJ nH
   · rw [List.getElem?_append_right (by omega)] at nH
     have b5:i-bX.length=0:=by
      by_cases q:i-bX.length=0
      · exact q
      · rw [List.getElem?_eq_none (by simp;omega)] at nH
        cases nH
     rw [b5] at nH
     simp at nH
     subst nH
     obtain rfl:i=m:=by omega
     exact ab
theorem Av (eg:uo P=true) (c2:laidOutB P=true):∀(n:Nat) (t:TypeId) (cs:List Value) (x:DataW H × List MemPlace),t<P.types.size→DataW.trod enc P W base sp held n t cs=some x→qo P W n (fG x.1) t cs
 | 0,t,cs,x,_,h=>by simp [DataW.trod] at h
 | n+1,t,cs,x,aS,h=>by
   have zf:∀(cs:List Value),(∀aa ad,ad.length=cs.length→de P aa (n+1) (fG x.1) t ad)→qo P W (n+1) (fG x.1) t cs:=by
    intro cs H E h s
    refine ⟨E,h,cs.map fun _=>.bad,fun _ _ q=>q,Ext.refl h,s,?_,by simp,H _ _ (by simp)⟩
    clear H
    induction cs with
    | nil=>rfl
    | cons c cs bb=>exact ⟨c,cs,rfl,by simp [Rel],bb⟩
   cases hu:P.underlying t with
   | none=>
     refine zf cs fun aa ad _=>?_
     simp only [de,hu]
   | some u=>
     cases u with
     | bool=>
       obtain ⟨b,rfl,_⟩:=DataW.trod_bool hu h
       intro E h s
       exact ⟨E,h,[.bool b],fun _ _ q=>q,Ext.refl h,s,⟨_,_,rfl,rfl,rfl⟩,rfl,by simp only [de,hu];exact ⟨b,rfl⟩⟩
     | int k=>
       obtain ⟨i,rfl,_,hw⟩:=DataW.trod_int hu h
       intro E h s
       exact ⟨E,h,[.int k i],fun _ _ q=>q,Ext.refl h,s,⟨_,_,rfl,rfl,rfl⟩,rfl,by simp only [de,hu];exact ⟨i,rfl,hw⟩⟩
     | string=>
       obtain ⟨b,rfl,rfl,_⟩:=DataW.trod_string hu h
       intro E h s
       exact ⟨E,h,[.str b.data.toList],fun _ _ q=>q,Ext.refl h,s,⟨_,_,rfl,rfl,rfl⟩,rfl,by simp only [de,hu,fG];exact ⟨_,rfl,Nat.le_refl _⟩⟩
     | struct bw=>
       obtain ⟨xs,eS,aX,rfl,aB,Ey,au⟩:=DataW.trod_struct hu h
       obtain rfl:n=eS:=by omega
       have V2:we P bw.toList 0=some (P.cellsOf t):=by
        unfold uo at eg
        rw [List.all_eq_true] at eg
        have:=eg t (List.mem_range.2 aS)
        rw [hu] at this
        exact of_decide_eq_true this
       have im:∀(i:Nat) (f:Field) (k:Nat),bw.toList[i]? =some f→(xs.map fun x=>fG x.1)[i]? =some k→qo P W n k f.type ((cs.drop f.offset).take (P.cellsOf f.type)):=by
        intro i f k ax al
        have nE:f ∈ bw.toList:=List.mem_of_getElem? ax
        have oO:bw[i]? =some f:=by simpa using ax
        have:=au i f oO
        have KM:i<xs.length:=by
         rw [Ey]
         exact (Array.getElem?_eq_some_iff.1 oO).1
        rw [List.getElem?_eq_getElem KM] at this
        rw [List.getElem?_map,List.getElem?_eq_getElem KM,Option.map_some,Option.some.injEq] at al
        subst al
        exact Av eg c2 n _ _ _ ((kid_struct c2 aS hu).1 f nE) this
       intro E h s
       obtain ⟨_,g⟩:=LC n bw.toList (xs.map fun x=>fG x.1) 0 _ cs V2 aB (by simp [Ey]) im
       obtain ⟨aP,aa,ad,bB,bJ,a3,a4,a5,kI⟩:=g E h s
       refine ⟨aP,aa,ad,bB,bJ,a3,by simpa using a4,by rw [a5,aB];omega,?_⟩
       simp only [de,hu]
       refine ⟨by omega,xs.map fun x=>fG x.1,by simp [Ey],?_,fun i f k nE al=>⟨?_,by simpa using (kI i f k nE al).2⟩⟩
       · simp only [fG,CR,List.map_map]
         exact Nat.le_refl _
       · rw [List.getElem?_map,Option.map_eq_some_iff] at al
         obtain ⟨y,_,rfl⟩:=al
         exact qA _
     | slice e=>
       rcases DataW.trod_slice hu h with ⟨rfl,rfl⟩ | ⟨a,len,cap,elems,rest,eS,aX,rfl,rfl,ah,r6,_,KG,DT,_,_⟩
       · intro E h s
         exact ⟨E,h,[.aF],fun _ _ q=>q,Ext.refl h,s,⟨_,_,rfl,rfl,rfl⟩,rfl,by simp only [de,hu];exact ⟨qA _,.inl trivial⟩⟩
       · obtain rfl:n=eS:=by omega
         by_cases bk:P.cellsOf e=0
         · refine zf _ fun aa ad _=>?_
           simp only [de,hu]
           exact ⟨qA _,.inr (.inr (.inl bk))⟩
         by_cases vl:len=0
         · subst vl
           intro E h s
           refine ⟨E,h,[.gN .z 0 0 0],fun _ _ q=>q,Ext.refl h,s,⟨_,_,rfl,?_,rfl⟩,rfl,by simp only [de,hu];exact ⟨qA _,.inr (.inl ⟨_,_,_,_,rfl⟩)⟩⟩
           simp only [Rel]
           exact ⟨_,_,rfl⟩
         · -- its elements
           have tk:∀i,i<len→∃l,W.cells? base (a.add (i * P.cellsOf e)) (P.cellsOf e)=some l∧∀k:Nat,(elems.map fun x=>fG x.1)[i]? =some k→qo P W n k e l:=by
            intro i ax
            have:=DT i ax
            rw [List.getElem?_eq_getElem (by omega)] at this
            rw [Option.bind_eq_some_iff] at this
            obtain ⟨l,ab,af⟩:=this
            refine ⟨l,ab,fun k al=>?_⟩
            rw [List.getElem?_map,List.getElem?_eq_getElem (by omega),Option.map_some,Option.some.injEq] at al
            subst al
            exact Av eg c2 n _ _ _ (kid_slice c2 aS hu) af
           obtain ⟨pieces,Ee,iL⟩:∃pieces:List (List Value),pieces.length=len∧∀i (l:List Value),pieces[i]? =some l→W.cells? base (a.add (i * P.cellsOf e)) (P.cellsOf e)=some l∧∀k:Nat,(elems.map fun x=>fG x.1)[i]? =some k→qo P W n k e l:=by
            exact ML (fun i l=>W.cells? base (a.add (i * P.cellsOf e)) (P.cellsOf e)=some l∧∀k:Nat,(elems.map fun x=>fG x.1)[i]? =some k→qo P W n k e l) len tk
           have mN:∀(i:Nat) (l:List Value) (k:Nat),pieces[i]? =some l→(elems.map fun x=>fG x.1)[i]? =some k→l.length=P.cellsOf e∧qo P W n k e l:=by
            intro i l k ax al
            obtain ⟨aG,az⟩:=iL i l ax
            exact ⟨(zp aG).1,az k al⟩
           have KY:∀l ∈ pieces,l.length=P.cellsOf e:=by
            intro l aB
            obtain ⟨i,ax⟩:=List.getElem?_of_mem aB
            exact (zp (iL i l ax).1).1
           intro E h s
           obtain ⟨hI,ab,us,bB,bJ,a3,a4,a5,kI⟩:=LD n (P.cellsOf e) e pieces (elems.map fun x=>fG x.1) (by simp [KG,Ee]) mN E h s
           have im:=Df (P.cellsOf e) pieces KY
           have K1:0<len * P.cellsOf e:=Nat.mul_pos (by omega) (by omega)
           have qN:∀i,i<pieces.flatten.length→W.cell? (a.add i)=pieces.flatten[i]? :=by
            intro q aM
            rw [im] at aM
            have r7:q % P.cellsOf e<P.cellsOf e:=Nat.mod_lt _ (by omega)
            have hdiv:q / P.cellsOf e<pieces.length:=Nat.div_lt_of_lt_mul (by rw [Nat.mul_comm];exact aM)
            have VB:q / P.cellsOf e * P.cellsOf e+q % P.cellsOf e=q:=by rw [Nat.mul_comm];exact Nat.div_add_mod q _
            rw [←VB,J6 (P.cellsOf e) pieces _ _ KY hdiv r7,List.getElem?_eq_getElem hdiv]
            obtain ⟨aG,_⟩:=iL _ _ (List.getElem?_eq_getElem hdiv)
            have:=(zp aG).2 _ r7
            rw [Option.bind_some,←this]
            congr 1
            unfold Addr.add
            by_cases dN:q / P.cellsOf e * P.cellsOf e=0
            · rw [dN];simp
            · by_cases db:q % P.cellsOf e=0
              · rw [db];simp
              · have z3:¬(q / P.cellsOf e * P.cellsOf e+q % P.cellsOf e=0):=by omega
                rw [if_neg dN,if_neg db,if_neg z3]
                simp [Nat.add_assoc]
           obtain ⟨ec,af,b,cJ,ct,eQ,ev,dR,hO,jb⟩:=OI a3 (cap:=cap) (by rw [im,Ee];exact K1) qN a4
           refine ⟨ec,af,[.slice b 0 len cap],bB.trans cJ,bJ.trans ct,eQ,⟨_,_,rfl,?_,rfl⟩,rfl,?_⟩
           · simp only [Rel]
             refine ⟨_,hO,r6,?_⟩
             obtain ⟨sX,ZU,st⟩:=a
             simp only at dR
             subst dR
             rfl
           · simp only [de,hu]
             refine ⟨qA _,.inr (.inr (.inr ⟨b,len,cap,rfl,by omega,r6,ev,us,jb,by rw [a5,Ee],elems.map fun x=>fG x.1,by simp [KG],?_,fun i k al=>⟨?_,de.ext ct _ _ _ _ (kI i k al)⟩⟩))⟩
             · simp only [fG,CR,List.map_map]
               exact Nat.add_le_add_right (Nat.le_add_right _ _) 1
             · rw [List.getElem?_map,Option.map_eq_some_iff] at al
               obtain ⟨y,_,rfl⟩:=al
               exact qA _
     | pointer e=>
       rcases DataW.trod_pointer hu h with ⟨rfl,rfl⟩ | ⟨a,Jz,y,eS,aX,rfl,rfl,aA,br⟩
       · intro E h s
         exact ⟨E,h,[.cq],fun _ _ q=>q,Ext.refl h,s,⟨_,_,rfl,rfl,rfl⟩,rfl,by simp only [de,hu];exact ⟨qA _,.inl trivial⟩⟩
       · obtain rfl:n=eS:=by omega
         by_cases bk:P.cellsOf e=0
         · refine zf _ fun aa ad _=>?_
           simp only [de,hu]
           exact ⟨qA _,.inr (.inl bk)⟩
         · intro E h s
           obtain ⟨aG,az⟩:=zp aA
           obtain ⟨hI,ab,us,bB,bJ,a3,a4,a5,kI⟩:=Av eg c2 n _ _ _ (kid_pointer c2 aS hu) br E h s
           obtain ⟨ec,af,b,cJ,ct,eQ,ev,dR,hO,jb⟩:=OI a3 (cap:=0) (by omega) (fun i ax=>az i (by omega)) a4
           refine ⟨ec,af,[.ptr b 0],bB.trans cJ,bJ.trans ct,eQ,⟨_,_,rfl,?_,rfl⟩,rfl,?_⟩
           · simp only [Rel]
             refine ⟨_,hO,?_⟩
             obtain ⟨sX,ZU,st⟩:=a
             simp only at dR
             subst dR
             rfl
           · simp only [de,hu]
             exact ⟨qA _,.inr (.inr ⟨b,rfl,ev,us,jb,by omega,_,Nat.le_refl _,de.ext ct _ _ _ _ kI⟩)⟩
     | map k e=>
       have j4:cs.length=1:=by
        unfold DataW.trod at h
        rw [hu] at h
        split at h<;>simp_all
       intro E h s
       refine ⟨E,h,[.bad],fun _ _ q=>q,Ext.refl h,s,?_,by simp [j4],by simp only [de,hu];exact .inr trivial⟩
       match cs,j4 with
       | [c],_=>exact ⟨c,[],rfl,by simp [Rel],rfl⟩
     | interface ms=>
       have j4:cs.length=1:=by
        unfold DataW.trod at h
        rw [hu] at h
        split at h<;>simp_all
       intro E h s
       refine ⟨E,h,[.bad],fun _ _ q=>q,Ext.refl h,s,?_,by simp [j4],by simp only [de,hu];exact .inr trivial⟩
       match cs,j4 with
       | [c],_=>exact ⟨c,[],rfl,by simp [Rel],rfl⟩
     | _=>
       refine zf cs fun aa ad _=>?_
       simp only [de,hu]
def lL (P:Program) (h:ag) (n m:Nat) (t:TypeId) (v:V):Prop:=
 match P.underlying t with
 | some (.struct _) | some (.array _ _)=>∃ad,v=.agg ad∧de P h n m t ad
 | _=>de P h n m t [v]
theorem lL.ext {h aa:ag} (e:Ext h aa) {n m:Nat} {t:TypeId} {v:V} (H:lL P h n m t v):lL P aa n m t v:=by
 unfold lL at H ⊢
 split at H
 · obtain ⟨ad,aG,az⟩:=H
   exact ⟨ad,aG,de.ext e _ _ _ _ az⟩
 · obtain ⟨ad,aG,az⟩:=H
   exact ⟨ad,aG,de.ext e _ _ _ _ az⟩
 · exact de.ext e _ _ _ _ H
theorem YV (eg:uo P=true) (c2:laidOutB P=true) {r:Reach} {eJ:Nat} {t:TypeId} {v:Value} {d:DataW H} {p:List MemPlace} (aS:t<P.types.size) (b7:Value.okWide P W r eJ t v) (bE:DataW.Trod enc P W base sp held t v d p) {E:Env} {h:ag} (s:bQ ⟨W,fun _=>none⟩ E h W):
 ∃n aP aa x,E.le aP∧Ext h aa∧bQ ⟨W,fun _=>none⟩ aP aa W∧Rel aP x v∧lL P aa n (fG d) t x:=by
 obtain ⟨fuel,au⟩:=bE
 obtain ⟨aP,aa,ad,bB,bJ,a3,a4,a5,kI⟩:=Av eg c2 _ _ _ _ aS au E h s
 have agg:(∃cs,v=.agg cs)→∃x,Rel aP x v∧x=.agg ad:=by
  rintro ⟨cs,rfl⟩
  exact ⟨.agg ad,by simp only [Rel];exact ⟨cs,rfl,a4⟩,rfl⟩
 have one:v.cells=#[v]→∃x,Rel aP x v∧ad=[x]:=by
  intro aA
  rw [aA] at a4 a5
  match ad,a4,a5 with
  | [x],⟨y,eU,aL,bo,c6⟩,_=>
    simp only [List.cons.injEq] at aL
    exact ⟨x,aL.1 ▸ bo,rfl⟩
 refine ⟨fuel,aP,aa,?_⟩
 unfold Value.okWide at b7
 cases hu:P.underlying t with
 | none=>
   rw [hu] at b7
   simp only [Cell.okWide,Cell.ok,hu] at b7
 | some u=>
   rw [hu] at b7
   unfold lL
   rw [hu]
   cases u<;>simp only at b7 ⊢<;>first
    | (obtain ⟨cs,a6,_⟩:=b7
       obtain ⟨x,aG,az⟩:=agg ⟨cs,a6⟩
       exact ⟨x,bB,bJ,a3,aG,ad,az,kI⟩)
    | (have aA:v.cells=#[v]:=by
        cases v<;>first
         | rfl
         | (simp only [Cell.okWide,Cell.ok,hu] at b7)
       obtain ⟨x,aG,az⟩:=one aA
       exact ⟨x,bB,bJ,a3,aG,az ▸ kI⟩)
def mj (P:Program) (h:ag):Nat→List TypeId→List V→Prop
 | _,[],[]=>True
 | m,t::cP,v::ad=>∃k bK,k+bK≤m∧(∃n,lL P h n k t v)∧mj P h bK cP ad
 | _,_,_=>False
theorem mj.mono {h:ag}:∀{m l3:Nat} {cP:List TypeId} {ad:List V},m≤l3→mj P h m cP ad→mj P h l3 cP ad
 | _,_,[],[],_,H=>by unfold mj;trivial
 | _,_,[],_::_,_,H=>H.elim
 | _,_,_::_,[],_,H=>H.elim
 | _,_,_::_,_::_,hm,⟨k,bK,al,H,hJ⟩=>⟨k,bK,Nat.le_trans al hm,H,hJ⟩
theorem LB (eg:uo P=true) (c2:laidOutB P=true) {r:Reach} {eJ:Nat}:∀{cP:List TypeId} {ad:List Value} {ds:List (DataW H)} {p:List MemPlace},(∀t ∈ cP,t<P.types.size)→(∀(j:Nat) t v,cP[j]? =some t→ad[j]? =some v→Value.okWide P W r eJ t v)→
 DataW.TrodAll enc P W base sp held cP ad ds p→∀{E:Env} {h:ag},bQ ⟨W,fun _=>none⟩ E h W→∃aP aa xs,E.le aP∧Ext h aa∧bQ ⟨W,fun _=>none⟩ aP aa W∧bA aP xs ad∧mj P aa (lg ds) cP xs
 | [],[],ds,p,_,_,_,E,h,s=>⟨E,h,[],fun _ _ q=>q,Ext.refl h,s,rfl,by unfold mj;trivial⟩
 | [],_::_,ds,p,_,_,bE,E,h,s=>by cases ds<;>exact bE.elim
 | _::_,[],ds,p,_,_,bE,E,h,s=>by cases ds<;>exact bE.elim
 | _::_,_::_,[],p,_,_,bE,E,h,s=>bE.elim
 | t::cP,v::ad,d::ds,p,aI,a6,⟨b_,b1,ab,af,_⟩,E,h,s=>by
   obtain ⟨n,hI,bF,x,bB,bJ,a3,a4,a5⟩:=YV eg c2 (aI t (by simp)) (a6 0 t v rfl rfl) ab s
   obtain ⟨ec,bz,xs,cJ,ct,eQ,ev,dR⟩:=LB eg c2 (fun t q=>aI t (by simp [q])) (fun j t v aG az=>a6 (j+1) t v (by simpa using aG) (by simpa using az)) af a3
   exact ⟨ec,bz,x::xs,bB.trans cJ,bJ.trans ct,eQ,⟨_,_,rfl,Rel.mono cJ _ _ a4,ev⟩,fG d,lg ds,by simp only [lg];exact Nat.le_refl _,⟨n,a5.ext ct⟩,dR⟩
theorem Sb (eg:uo P=true) (c2:laidOutB P=true) {r:Reach} {eJ:Nat} {f:FuncId} {cP:List TypeId} {ad:List Value} {ds:List (DataW H)} {p:List MemPlace} (fR:∀t ∈ cP,t<P.types.size) (a6:∀(j:Nat) t v,cP[j]? =some t→ad[j]? =some v→Value.okWide P W r eJ t v)
 (bE:DataW.TrodAll enc P W base sp held cP ad ds p) (va:Lay.ok W) (dU:i' P) (ah:∃fn,P.funcs[f]? =some fn∧fn.body.isSome=true) (aA:∀(h:ag) (xs:List V),mj P h (lg ds) cP xs→bR P f xs h fun y _=>y=.bool true):
 Calls P f ad.toArray W fun e aC=>e=.returned (.bool true)∧Below W.heap.size W aC:=by
 obtain ⟨E,h,xs,_,_,a3,a4,a5⟩:=LB eg c2 fR a6 bE (N0 W va)
 obtain ⟨y,aa,pD,rfl⟩:=aA h xs a5
 refine (pD.calls dU ah _ E W ad a4 a3).mono fun e aC q=>?_
 obtain ⟨aP,x,rfl,_,az,aW⟩:=q
 simp only [Rel] at az
 subst az
 exact ⟨rfl,aW.frame⟩
end
end Go.Proofs.YtjbiefneffiogaaGreat.ba
namespace Go.Proofs.YtjbiefneffiogaaGreat.ba
variable [Lay]
open Go Go.RowKit
theorem collect {α:Type} (enc:α→List V) (size:Nat) (Q:α→Prop):∀(len:Nat) (us:List V),us.length=len * size→(∀i,i<len→∃a,(us.drop (i * size)).take size=enc a∧Q a)→
 ∃po:List α,po.length=len∧us=po.flatMap enc∧∀a ∈ po,Q a
 | 0,us,aB,_=>⟨[],rfl,by simpa using aB,fun a h=>by simp at h⟩
 | len+1,us,aB,h=>by
   obtain ⟨a,ab,af⟩:=h 0 (by omega)
   rw [Nat.add_mul,Nat.one_mul] at aB
   obtain ⟨po,bF,bz,b6⟩:=collect enc size Q len (us.drop size) (by rw [List.length_drop];omega) (fun i ax=>by
    obtain ⟨b,bT,b8⟩:=h (i+1) (by omega)
    refine ⟨b,?_,b8⟩
    rw [List.drop_drop,←bT,Nat.add_mul,Nat.one_mul,Nat.add_comm])
   refine ⟨a::po,by simp [bF],?_,fun b ah=>?_⟩
   · rw [List.flatMap_cons,←bz,←ab,Nat.zero_mul,List.drop_zero,List.take_append_drop]
   · rcases List.mem_cons.1 ah with rfl | ah
     · exact af
     · exact b6 b ah
section
variable {P:Program} {h:ag} {n m:Nat} {t:TypeId}
theorem de.pos {ad:List V} (H:de P h n m t ad):∃k,n=k+1:=by
 cases n with
 | zero=>exact H.elim
 | succ m=>exact ⟨m,rfl⟩
theorem de.int {ad:List V} {k:IntKind} (H:de P h n m t ad) (hu:P.underlying t=some (.int k)):∃i,ad=[.int k i]∧(Lit.int k i).wf=true:=by
 obtain ⟨m,rfl⟩:=H.pos
 simpa only [de,hu] using H
theorem de.str {ad:List V} (H:de P h n m t ad) (hu:P.underlying t=some .string):∃s:List UInt8,ad=[.str s]∧s.length+1≤m:=by
 obtain ⟨_,rfl⟩:=H.pos
 simpa only [de,hu] using H
theorem de.struct {ad:List V} {bw:Array Field} (H:de P h n m t ad) (hu:P.underlying t=some (.struct bw)):∃eS,n=eS+1∧ad.length=P.cellsOf t∧∃ms:List Nat,ms.length=bw.toList.length∧ms.sum+1≤m∧
 ∀(i:Nat) (f:Field) (k:Nat),bw.toList[i]? =some f→ms[i]? =some k→1≤k∧de P h eS k f.type ((ad.drop f.offset).take (P.cellsOf f.type)):=by
 obtain ⟨eS,rfl⟩:=H.pos
 refine ⟨eS,rfl,?_⟩
 simpa only [de,hu] using H
def ym (v:V):Prop:=∀b off l c,v=.slice b off l c→l≤c
def wK (h:ag) (size:Nat) (v:V) (len m:Nat) (Q:Nat→List V→Prop):Prop:=
 v.one=true∧v.cells=[v]∧v.ek=true∧mT v=some (.int .i64 len)∧ym v∧∃(us:List V) (ms:List Nat),cF h size v len us∧ms.length=len∧ms.sum+1≤m∧∀(i k:Nat),ms[i]? =some k→1≤k∧Q k ((us.drop (i * size)).take size)
theorem de.slice {ad:List V} {e:TypeId} (H:de P h n m t ad) (hu:P.underlying t=some (.slice e)) (bk:P.cellsOf e≠0):∃eS v len,n=eS+1∧ad=[v]∧wK h (P.cellsOf e) v len m (fun k=>de P h eS k e):=by
 obtain ⟨eS,rfl⟩:=H.pos
 simp only [de,hu] at H
 obtain ⟨ao,H⟩:=H
 rcases H with rfl | ⟨b,i,j,k,rfl⟩ | q | ⟨b,len,cap,rfl,ab,af,bM,us,bT,b8,ms,fp,h8,mO⟩
 · exact ⟨eS,_,0,rfl,rfl,rfl,rfl,rfl,rfl,(fun _ _ _ _ e=>by cases e),[],[],⟨by simp,rfl⟩,rfl,by simpa using ao,fun i k ax=>by simp at ax⟩
 · exact ⟨eS,_,0,rfl,rfl,rfl,rfl,rfl,rfl,(fun _ _ _ _ e=>by cases e),[],[],⟨by simp,rfl⟩,rfl,by simpa using ao,fun i k ax=>by simp at ax⟩
 · exact absurd q bk
 · exact ⟨eS,_,len,rfl,rfl,rfl,rfl,rfl,rfl,(fun _ _ _ _ e=>by cases e;exact af),us,ms,⟨b8,rfl,bM,us,bT,by omega,by simp⟩,fp,h8,mO⟩
end
end Go.Proofs.YtjbiefneffiogaaGreat.ba
namespace Go.Proofs.YtjbiefneffiogaaGreat.ba
variable [Lay]
open Go Go.RowKit Go.ChangeShapes Go.WideShapes
section
variable {H:Type} {enc:TypeId × Value→H} {P:Program}
theorem Hj (c2:laidOutB P=true) {W wO:World} (ah:Below W.heap.size W wO):∀{cP:List TypeId} {ad:List Value} {ds:List (DataW H)} {bX:List MemPlace},(cP.all fun t=>P.readableRec t&&decide (t<P.types.size))=true→
 DataW.TrodAll enc P W 0 (fun _=>true) true cP ad ds bX→DataW.TrodAll enc P wO 0 (fun b=>decide (b<W.heap.size)) true cP ad ds bX
 | [],[],[],_,_,h=>h
 | [],_::_,_,_,_,h=>by rename_i ds _;cases ds<;>exact h.elim
 | [],[],_::_,_,_,h=>h.elim
 | _::_,[],_,_,_,h=>by rename_i ds _;cases ds<;>exact h.elim
 | _::_,_::_,[],_,_,h=>h.elim
 | t::cP,v::ad,d::ds,bX,aT,h=>by
   have aS:=h.lt
   obtain ⟨p,q,ab,af,rfl⟩:=h
   simp only [List.all_cons,Bool.and_eq_true,decide_eq_true_eq] at aT
   exact ⟨p,q,Below.trod c2 aT.1.1 aT.1.2 ab ah (fun x an=>aS x (by simp [an])),Hj c2 ah aT.2 af,rfl⟩
theorem Oq {W:World} {base:Nat} {sp:Nat→Bool} {held:Bool}:∀{cP:List TypeId} {ad:List Value} {ds:List (DataW H)} {bX:List MemPlace},DataW.TrodAll enc P W base sp held cP ad ds bX→ds.length=cP.length
 | [],[],[],_,_=>rfl
 | [],_::_,ds,_,h=>by cases ds<;>exact h.elim
 | [],[],_::_,_,h=>h.elim
 | _::_,[],ds,_,h=>by cases ds<;>exact h.elim
 | _::_,_::_,[],_,h=>h.elim
 | t::cP,v::ad,d::ds,bX,h=>by
   obtain ⟨p,q,ab,af,rfl⟩:=h
   simp [Oq af]
theorem YT (eg:uo P=true) (c2:laidOutB P=true) {f:FuncId} {fn:Func} {s:ChangeSpec} {F5:TypeId} (fR:(fn.params.toList.all fun t=>P.readableRec t&&decide (t<P.types.size))=true) (Lb:s.vars=[]) (VL:fn.resultTypes=#[F5]) (V4:P.underlying F5=some .bool)
 (Eo:∀ds:List (DataW H),ds.length=fn.params.size→s.fn H (ds++[])={results:=[.lit (.bool true)],args:=ds})
 {B:Nat} (aA:∀(h:ag) (xs:List V),mj P h B fn.params.toList xs→bR P f xs h fun y _=>y=.bool true)
 {W:World} {base:Nat} {args:Array Value} {ds gs:List (DataW H)} {before:List MemPlace} (al:lg (ds++gs)≤B) (mM:Lay.ok W) (dU:i' P) (ah:∃fn,P.funcs[f]? =some fn∧fn.body.isSome=true)
 (tr:∀(j:Nat) t v,fn.params[j]? =some t→args[j]? =some v→Value.okWide P W .any base t v) (va:DataW.Whole enc P fn.params.toList s.vars false W args.toList ds gs before):
 Calls P f args W fun e wO=>∃v,e=.returned v∧s.post enc P fn false true false false W args v wO:=by
 have Ul:=va
 obtain ⟨p,q,pB,xi,rfl,lp,KR⟩:=va
 rw [Lb] at xi
 obtain ⟨rfl,rfl⟩:=trodVars_none xi
 have hlen:ds.length=fn.params.size:=by rw [Oq pB];simp
 have hw:=Sb eg c2 (eJ:=base) (r:=.any) (fun t aI=>by
  have:=List.all_eq_true.1 fR t aI
  simp only [Bool.and_eq_true,decide_eq_true_eq] at this
  exact this.2) (fun j t v ab af=>tr j t v (by simpa using ab) (by simpa using af)) pB mM dU ah (fun h xs q=>aA h xs (q.mono (by simpa using al)))
 simp only [Array.toArray_toList] at hw
 refine hw.mono fun e wO ⟨he,Hi⟩=>?_
 subst he
 refine ⟨_,rfl,ds,[],p++[],[],p,[],Ul,?_,?_,?_,Hi.frame _,fun h=>by cases h⟩
 · rw [Eo ds hlen,VL]
   exact trodAll_mk1 (shut_bool V4 _)
 · rw [Eo ds hlen]
   exact Hj c2 Hi fR pB
 · rw [Eo ds hlen,Lb]
   rfl
end
end Go.Proofs.YtjbiefneffiogaaGreat.ba
namespace Go.Proofs.YtjbiefneffiogaaGreat.ba
variable [Lay]
open Go Go.RowKit
theorem ab3 {P:Program} {h:ag} {B:Nat} {xs:List V} (bk:mj P h B [] xs):xs=[]:=by
 match xs,bk with
 | [],_=>rfl
theorem Bp {P:Program} {h:ag} {B:Nat} {t:TypeId} {cP:List TypeId} {xs:List V} (bk:mj P h B (t::cP) xs):∃a po k bK n,xs=a::po∧k+bK≤B∧lL P h n k t a∧mj P h bK cP po:=by
 match xs,bk with
 | a::po,⟨k,bK,al,⟨n,ao⟩,ab⟩=>exact ⟨a,po,k,bK,n,rfl,al,ao,ab⟩
section
variable {P:Program} {h:ag} {n m:Nat} {t:TypeId} {v:V}
theorem NZ {k:IntKind} (bk:lL P h n m t v) (hu:P.underlying t=some (.int k)):∃i,v=.int k i∧(Lit.int k i).wf=true:=by
 unfold lL at bk
 rw [hu] at bk
 obtain ⟨s,e,q⟩:=de.int bk hu
 simp only [List.cons.injEq,and_true] at e
 exact ⟨s,e,q⟩
theorem ab5 {bw:Array Field} (bk:lL P h n m t v) (hu:P.underlying t=some (.struct bw)):∃ad,v=.agg ad∧de P h n m t ad:=by
 unfold lL at bk
 rw [hu] at bk
 exact bk
theorem ab4 {e:TypeId} (bk:lL P h n m t v) (hu:P.underlying t=some (.slice e)) {c:Nat} (aA:P.cellsOf e=c) (vd:c≠0):∃eS len,wK h c v len m (fun k=>de P h eS k e):=by
 unfold lL at bk
 rw [hu] at bk
 subst aA
 obtain ⟨eS,w,len,_,aL,g⟩:=de.slice bk hu vd
 simp only [List.cons.injEq,and_true] at aL
 subst aL
 exact ⟨eS,len,g⟩
end
end Go.Proofs.YtjbiefneffiogaaGreat.ba
namespace Go.Proofs.YtjbiefneffiogaaGreat.ba
variable [Lay]
open Go Go.RowKit Go.Maps Go.Sort Go.Shelf
def vv (x:Int):List Int→List Int
 | []=>[x]
 | y::l=>bif Int.leB x y then x::y::l else y::vv x l
def hc:List Int→List Int
 | []=>[]
 | x::l=>vv x (hc l)
theorem EI (x:Int):∀l,(vv x l).Perm (x::l)
 | []=>List.Perm.refl _
 | y::l=>by
   simp only [vv]
   cases Int.leB x y with
   | true=>exact List.Perm.refl _
   | false=>exact ((EI x l).cons y).trans (List.Perm.swap x y l)
theorem p6:∀l,(hc l).Perm l
 | []=>List.Perm.refl _
 | x::l=>(EI x _).trans ((p6 l).cons x)
theorem Lj (x:Int):∀l:List Int,l.Pairwise (·≤·)→(vv x l).Pairwise (·≤·)
 | [],_=>List.pairwise_singleton _ _
 | y::l,h=>by
   simp only [vv,mS]
   by_cases pK:x≤y
   · rw [decide_eq_true pK]
     refine List.pairwise_cons.2 ⟨fun z aV=>?_,h⟩
     rcases List.mem_cons.1 aV with rfl | aV
     · exact pK
     · exact Int.le_trans pK ((List.pairwise_cons.1 h).1 z aV)
   · rw [decide_eq_false pK]
     refine List.pairwise_cons.2 ⟨fun z aV=>?_,Lj x l (List.pairwise_cons.1 h).2⟩
     rcases List.mem_cons.1 ((EI x l).mem_iff.1 aV) with rfl | aV
     · omega
     · exact (List.pairwise_cons.1 h).1 z aV
theorem Bt:∀l,(hc l).Pairwise (·≤·)
 | []=>.nil
 | x::l=>Lj x _ (Bt l)
theorem N6 {l m:List Int} (h:m.Perm l):m.mergeSort (fun x y=>decide (x≤y))=hc l:=by
 have aH:(m.mergeSort (fun x y=>decide (x≤y))).Perm (hc l):=((List.mergeSort_perm m _).trans h).trans (p6 l).symm
 have bk:(m.mergeSort (fun x y=>decide (x≤y))).Pairwise (·≤·):=by
  have:=List.pairwise_mergeSort (le:=fun x y:Int=>decide (x≤y)) (fun a b c ab af=>by simp only [decide_eq_true_eq] at *;omega) (fun a b=>by simp only [Bool.or_eq_true,decide_eq_true_eq];omega) m
  exact this.imp (fun h=>by simpa using h)
 exact aH.eq_of_pairwise (fun a b _ _ ab af=>Int.le_antisymm ab af) bk (Bt l)
def l2:List ig→Option (List Int)
 | []=>some []
 | m::ms=>match m.k with
   | .int .i64 n=>(match l2 ms with
     | some l=>some (n::l)
     | none=>none)
   | _=>none
def vG (x:Int):List Int→Bool
 | []=>false
 | y::l=>Int.hR x y||vG x l
def si:List Int→Bool
 | []=>true
 | x::l=>!vG x l&&si l
def rN (clock:Nat):Nat→List ig→Bool
 | _,[]=>true
 | bU,m::ms=>Nat.ble bU m.born&&Nat.blt m.born clock&&rN clock (m.born+1) ms
def sD:List Int→Bool
 | []=>true
 | x::l=>(Lit.int .i64 x).wf&&sD l
def cC (l:List Int):List V:=l.map (V.int .i64)
noncomputable def Bu (g:FuncId) (lf:aN) (h:ag):bh:=
 match h.get lf with
 | .cells n cs 0 _=>bif Nat.blt 0 n then (match T.get .bad (ak 0) cs with
   | .map b=>(match h.get b with
     | .mp es clock=>(match l2 es with
       | some ay=>bif si ay&&rN clock 0 es&&sD ay&&Nat.ble es.length 1000000 then (match hc ay with
          | []=>.val .aF h
          | x::l=>(match jN h (cC (x::l)) 1 false with
            | some aa=>.val (.dp (ak h.next) 0 (x::l).length 0) aa
            | none=>.fail)) else .fail
       | none=>.fail)
     | _=>.fail)
   | _=>.fail) else .fail
 | _=>.fail
noncomputable def yq (g:FuncId):GZ:=
 ⟨fun args h=>match args with
   | [.func f [.ptr lf 0]]=>bif Nat.beq f g then Bu g lf h else .fail
   | _=>.fail⟩
theorem Lv:∀{es:List ig} {ay:List Int},l2 es=some ay→ay.length=es.length
 | [],ay,h=>by simp only [l2,Option.some.injEq] at h;subst h;rfl
 | m::ms,ay,h=>by
   unfold l2 at h
   split at h
   · cases aM:l2 ms with
     | none=>rw [aM] at h;cases h
     | some l=>
       rw [aM] at h
       simp only [Option.some.injEq] at h
       subst h
       simp [Lv aM]
   · cases h
theorem Lw {E:Env}:∀{es:List ig} {ay:List Int} {l:List MapEntry},l2 es=some ay→iZ E es l→l.map (·.key)=ay.map (Value.int .i64)∧l.map (·.born)=es.map (·.born)
 | [],ay,l,h,aT=>by
   simp only [l2,Option.some.injEq] at h
   simp only [iZ] at aT
   subst h aT
   exact ⟨rfl,rfl⟩
 | m::ms,ay,l,h,aT=>by
   simp only [iZ] at aT
   obtain ⟨e,aeh,rfl,ab,af,aK,bM⟩:=aT
   unfold l2 at h
   split at h
   · rename_i n al
     cases aM:l2 ms with
     | none=>rw [aM] at h;cases h
     | some l=>
       rw [aM] at h
       simp only [Option.some.injEq] at h
       subst h
       obtain ⟨bF,bz⟩:=Lw aM bM
       rw [al] at ab
       simp only [Rel] at ab
       simp only [List.map_cons,bF,bz,ab,aK,and_self]
   · cases h
theorem L5 {x:Int}:∀{l:List Int},vG x l=false→x ∉ l
 | [],_=>by simp
 | y::l,h=>by
   simp only [vG,Bool.or_eq_false_iff] at h
   have ab:¬x=y:=by
    intro q
    have:=h.1
    rw [mz,decide_eq_false_iff_not] at this
    exact this q
   rw [List.mem_cons]
   rintro (q | q)
   · exact ab q
   · exact L5 h.2 q
theorem Ma:∀{l:List Int},si l=true→l.Nodup
 | [],_=>List.nodup_nil
 | x::l,h=>by
   simp only [si,Bool.and_eq_true,Bool.not_eq_true'] at h
   exact List.nodup_cons.2 ⟨L5 h.1,Ma h.2⟩
theorem Hp {clock:Nat}:∀{bU:Nat} {es:List ig},rN clock bU es=true→(∀n ∈ es.map (·.born),bU≤n∧n<clock)∧(es.map (·.born)).Nodup
 | bU,[],_=>⟨by simp,by simp⟩
 | bU,m::ms,h=>by
   simp only [rN,Bool.and_eq_true,Nat.ble_eq,Nat.blt_eq] at h
   obtain ⟨bF,bz⟩:=Hp h.2
   refine ⟨fun n aX=>?_,?_⟩
   · rw [List.map_cons] at aX
     rcases List.mem_cons.1 aX with rfl | aX
     · exact h.1
     · have:=bF n aX
       omega
   · rw [List.map_cons]
     refine List.nodup_cons.2 ⟨fun q=>?_,bz⟩
     have:=bF _ q
     omega
theorem OM:∀{l:List Int},sD l=true→∀x ∈ l,(Lit.int .i64 x).wf=true
 | [],_,x,an=>by cases an
 | y::l,h,x,an=>by
   simp only [sD,Bool.and_eq_true] at h
   rcases List.mem_cons.1 an with rfl | an
   · exact h.1
   · exact OM h.2 x an
theorem ZL {l:List Int} (h:l.Nodup):(l.map (Value.int .i64)).Nodup:=by
 induction l with
 | nil=>exact List.nodup_nil
 | cons x l bb=>
   obtain ⟨ab,af⟩:=List.nodup_cons.1 h
   rw [List.map_cons]
   refine List.nodup_cons.2 ⟨fun q=>?_,bb af⟩
   obtain ⟨y,br,e⟩:=List.mem_map.1 q
   cases e
   exact ab br
def G4 (P:Program) (f g:FuncId) (iP:TypeId):Prop:=
 ∀(sH b E9:Nat) (rB:DataW Unit) (R:Value→Option (DataW Unit × List MemPlace)) (w:World),sH<w.heap.size→w.cell? ⟨sH,0,none⟩=some (.map (some b))→w.ownsMap P iP R b E9 rB→Maps.size rB≤maxLen→Maps.size rB * 8≤140737488355328→
  Calls P f #[.func (.func g) #[] #[.pointer (some ⟨sH,0,none⟩)]] w fun e aC=>∃(v:Value) (fh:List Int),e=.returned v∧fh.Perm (intKeys rB)∧
   aC.ownsRow w.heap.size iP 1 v fh.length ((fh.mergeSort (fun x y=>decide (x≤y))).map encZ)∧(v=.slice none 0 0↔fh=[])∧Below w.heap.size w aC
theorem EJ (E:Env):∀l:List Int,bA E (cC l) (l.map encZ)
 | []=>rfl
 | x::l=>by
   simp only [cC,List.map_cons,bA]
   exact ⟨_,_,rfl,by simp only [Rel],EJ E l⟩
theorem aaB {aJ:Fr} {E:Env} {h:ag} {w:World} (s:bQ aJ E h w) {b:aN} {q:lJ} (bt:(h.get b).own=true) (aM:E b=some q):q.a_<w.heap.size:=by
 have ah:=s.at aM
 cases a1:h.get b with
 | dead=>rw [a1] at bt;cases bt
 | view n cs=>rw [a1] at bt;cases bt
 | cells n cs cw st=>rw [a1] at ah;obtain ⟨_,dm,c,el,b3,e,_,cv,_⟩:=ah;rw [e] at aM;cases aM;exact (Array.getElem?_eq_some_iff.1 cv).1
 | iter st pos=>rw [a1] at ah;obtain ⟨dm,e,_,_,cv⟩:=ah;rw [e] at aM;cases aM;exact (Array.getElem?_eq_some_iff.1 cv).1
 | mp es clock=>rw [a1] at ah;obtain ⟨dm,a,e,_,cv,_⟩:=ah;rw [e] at aM;cases aM;exact (Array.getElem?_eq_some_iff.1 cv).1
theorem N' {P:Program} {f g:FuncId} {iP:TypeId} (qT:P.underlying iP=some (.int .i64)) (C:G4 P f g iP) {args:List V} {h aa:ag} {v:V} (he:(yq g).run args h=.val v aa)
 (aJ:Fr) (E:Env) (w:World) (xs:List Value) (an:bA E args xs) (s:bQ aJ E h w):
 Calls P f xs.toArray w fun e aC=>∃aP x,e=.returned x∧E.le aP∧Rel aP v x∧bQ aJ aP aa aC:=by
 match args,he,an with
 | [.func xa [.ptr lf 0]],he,an=>
   simp only [yq] at he
   cases DR:Nat.beq xa g with
   | false=>rw [DR] at he;cases he
   | true=>
     rw [DR] at he
     simp only [cond_true] at he
     have UQ:xa=g:=Nat.eq_of_beq_eq_true DR
     subst UQ
     simp only [bA] at an
     obtain ⟨y,_,rfl,br,rfl⟩:=an
     simp only [Rel] at br
     obtain ⟨a,rfl,q,_,bH,aM,rfl⟩:=br
     obtain ⟨p,aH,rfl⟩:=aM
     have Dz:a=#[.pointer (some ⟨p.a_,p.base+0,none⟩)]:=by
      rw [←Array.toList_inj,bH]
     subst Dz
     unfold Bu at he
     split at he
     · rename_i n cs st jd
       have vb:=s.base lf p n cs st jd aH
       have nC:=s.at aH
       rw [jd] at nC
       obtain ⟨_,nY,c,el,b3,aL,_,z1,_,_,_,KE⟩:=nC
       rw [aH] at aL;cases aL
       cases aX:Nat.blt 0 n with
       | false=>rw [aX] at he;cases he
       | true=>
         rw [aX] at he
         simp only [cond_true] at he
         rw [Nat.blt_eq] at aX
         split at he
         · rename_i b ti
           have vd:0<c.size:=by have:=KE.1;omega
           have jI:=KE.2 0 c[0] aX (by rw [vb];exact Array.getElem?_eq_getElem vd)
           rw [ti] at jI
           simp only [Rel] at jI
           obtain ⟨dx,lu,qN⟩:=jI
           split at he
           · rename_i es clock qP
             have oS:=s.at lu
             rw [qP] at oS
             obtain ⟨afa,am,bo,_,Vk,xA⟩:=oS
             rw [lu] at bo;cases bo
             cases r5:l2 es with
             | none=>rw [r5] at he;cases he
             | some ay=>
               rw [r5] at he
               simp only at he
               cases mL:(si ay&&rN clock 0 es&&sD ay&&Nat.ble es.length 1000000) with
               | false=>rw [mL] at he;cases he
               | true=>
                 rw [mL] at he
                 simp only [cond_true] at he
                 simp only [Bool.and_eq_true,Nat.ble_eq] at mL
                 obtain ⟨⟨⟨bF,bz⟩,b6⟩,fP⟩:=mL
                 obtain ⟨bT,b8⟩:=Lw r5 xA
                 have D2:=Lv r5
                 have Ky:am.size=ay.length:=by
                  have:=congrArg List.length bT
                  simpa using this
                 obtain ⟨cJ,ct⟩:=Hp bz
                 have z8:maxLen=9223372036854775807:=by decide
                 have VY:MapKept.Stamped am clock:=by
                  refine ⟨fun x an=>?_,by rw [b8];exact ct,by rw [bT];exact ZL (Ma bF)⟩
                  have:x.born ∈ es.map (·.born):=by rw [←b8];exact List.mem_map_of_mem an
                  exact (cJ _ this).2
                 have U5:∀x ∈ am.toList,∃n ∈ ay,x.key=.int .i64 n:=by
                  intro x an
                  have:x.key ∈ am.toList.map (·.key):=List.mem_map_of_mem an
                  rw [bT] at this
                  obtain ⟨n,aX,e⟩:=List.mem_map.1 this
                  exact ⟨n,aX,e.symm⟩
                 have qX:∀x ∈ am.toList,∃n,x.key=.int .i64 n∧WideElems.rd P iP (fun _=>some ((.nil:DataW Unit),[])) x=some (.int .i64 n,.nil):=by
                  intro x an
                  obtain ⟨n,aX,e⟩:=U5 x an
                  refine ⟨n,e,?_⟩
                  unfold WideElems.rd
                  rw [e,Maps.keyOf_int_mk qT (OM b6 n aX)]
                  rfl
                 have UR:WideElems.Fit P iP (fun _=>some ((.nil:DataW Unit),[])) am clock:=⟨by rw [Ky,D2,z8];omega,VY,fun x an=>by obtain ⟨n,_,e⟩:=qX x an;exact ⟨_,e⟩⟩
                 have f_:w.ownsMap P iP (fun _=>some ((.nil:DataW Unit),[])) dx.a_ am.size (.map ((am.toList.map (WideElems.rg P iP (fun _=>some ((.nil:DataW Unit),[])))).foldr DataW.insert [])):=⟨am,clock,Vk,UR,Nat.le_refl _,rfl⟩
                 have U6:(am.toList.map (WideElems.rg P iP (fun _=>some ((.nil:DataW Unit),[])))).map (fun p=>intOf p.1)=ay:=by
                  have aV:∀(l:List MapEntry) (ry:List Int),(∀x ∈ l,∃n,x.key=.int .i64 n∧WideElems.rd P iP (fun _=>some ((.nil:DataW Unit),[])) x=some (.int .i64 n,.nil))→l.map (·.key)=ry.map (Value.int .i64)→(l.map (WideElems.rg P iP (fun _=>some ((.nil:DataW Unit),[])))).map (fun p=>intOf p.1)=ry:=by
                   intro l
                   induction l with
                   | nil=>
                     intro ry _ e
                     cases ry with
                     | nil=>rfl
                     | cons z ry=>simp at e
                   | cons x l bb=>
                     intro ry kQ e
                     cases ry with
                     | nil=>simp at e
                     | cons z ry=>
                       simp only [List.map_cons,List.cons.injEq] at e
                       obtain ⟨n,aL,bo⟩:=kQ x (List.mem_cons_self ..)
                       have Ws:z=n:=by
                        have:=e.1.symm.trans aL
                        injection this
                       rw [List.map_cons,List.map_cons,bb ry (fun y br=>kQ y (List.mem_cons_of_mem _ br)) e.2]
                       unfold WideElems.rg
                       rw [bo,Ws]
                       rfl
                  exact aV am.toList ay qX bT
                 have zV:(intKeys (.map ((am.toList.map (WideElems.rg P iP (fun _=>some ((.nil:DataW Unit),[])))).foldr DataW.insert []):DataW Unit)).Perm ay:=by
                  have:=(WideShapes.sorted_perm (am.toList.map (WideElems.rg P iP (fun _=>some ((.nil:DataW Unit),[]))))).map (fun p=>intOf p.1)
                  rw [U6] at this
                  exact this
                 have eC:Maps.size (.map ((am.toList.map (WideElems.rg P iP (fun _=>some ((.nil:DataW Unit),[])))).foldr DataW.insert []):DataW Unit)=ay.length:=by
                  rw [Maps.size_eq,length_sorted,List.length_map,Array.length_toList,Ky]
                 have aS:=(Array.getElem?_eq_some_iff.1 z1).1
                 have Us:w.cell? ⟨p.a_,0,none⟩=some (.map (some dx.a_)):=by
                  simp only [World.cell?,z1]
                  rw [←qN]
                  exact Array.getElem?_eq_getElem vd
                 have call:=C p.a_ dx.a_ am.size _ _ w aS Us f_ (by rw [eC,D2,z8];omega) (by rw [eC,D2];omega)
                 rw [show p.base+0=0 from by rw [vb]]
                 refine call.mono fun e aC q=>?_
                 obtain ⟨v0,fh,rfl,aG,az,aW,bZ⟩:=q
                 have pJ:fh.Perm ay:=aG.trans zV
                 rw [N6 pJ] at az
                 have xL:fh.length=(hc ay).length:=by rw [pJ.length_eq,(p6 ay).length_eq]
                 split at he
                 · rename_i VN
                   have:fh=[]:=by
                    rw [VN] at xL
                    exact List.eq_nil_of_length_eq_zero xL
                   cases he
                   rw [aW.2 this]
                   exact ⟨E,_,rfl,fun _ _ q=>q,by simp only [Rel],s.below bZ⟩
                 · rename_i x l Ac
                   rw [Ac] at xL az
                   cases tb:jN h (cC (x::l)) 1 false with
                   | none=>rw [tb] at he;cases he
                   | some ab=>
                     rw [tb] at he
                     simp only [bh.val.injEq] at he
                     obtain ⟨rfl,rfl⟩:=he
                     obtain ⟨bf,bV⟩:=az
                     rcases bV with ⟨_,bV⟩ | ⟨kP,cap,cur,rfl,bV,ch,dr,e0,m2,fU⟩
                     · rw [xL] at bV;cases bV
                     · unfold jN at tb
                       obtain ⟨aA,tb⟩:=fl tb
                       simp only [Bool.and_eq_true,Nat.ble_eq] at aA
                       simp only [Option.some.injEq] at tb
                       subst tb
                       have eB:E.put (ak h.next) ⟨kP,0,cap⟩ (ak h.next)=some ⟨kP,0,cap⟩:=by unfold Env.put;rw [if_pos rfl]
                       have hle:E.le (E.put (ak h.next) ⟨kP,0,cap⟩):=Env.q7 (s.fresh h.next (Nat.le_refl _))
                       refine ⟨_,_,rfl,hle,?_,s.add (p:=⟨kP,0,cap⟩) bZ.size (fun j bC _=>bZ.block j bC) (Nat.le_trans s.frame.size bV) (fun bN dm vo nJ ko=>?_) bZ.os bZ.tape bZ.output (fun _ _ _ e=>by injection e with _ _ c6;omega) ?_⟩
                       · simp only [Rel]
                         exact ⟨_,eB,by simp only [Nat.zero_add];omega,by simp only [Nat.add_zero,Nat.sub_zero,xL]⟩
                       · have:=aaB s vo nJ
                         simp only at ko
                         omega
                       · have j4:=zN (bA.mono hle _ _ (EJ E (x::l))) aA.1 (cur.toList.drop (fh.length * 1)).toArray
                         have Uy:((x::l).map encZ).toArray++(cur.toList.drop (fh.length * 1)).toArray=cur:=by
                          rw [←fU,←Array.toList_inj]
                          simp
                         rw [Uy] at j4
                         exact ⟨aA.1,⟨kP,0,cap⟩,cur,iP,(0,0),eB,Nat.le_trans s.frame.size bV,ch,.inr (Nat.le_refl _),fun _=>rfl,fun _=>by simp only;omega,j4⟩
           · cases he
         · cases he
     · cases he
end Go.Proofs.YtjbiefneffiogaaGreat.ba
