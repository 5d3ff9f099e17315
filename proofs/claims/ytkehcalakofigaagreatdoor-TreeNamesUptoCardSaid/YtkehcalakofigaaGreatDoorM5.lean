/- The abstract machine and its walks (a verified interpreter of the model's code: plain definitions and lemmas, no condition). Printed by a program from longer texts: names made short. -/
import Derived.Test.YtkehcalakofigaaGreatDoorM4
import Derived.ChangeBears
import Derived.Carry
import Derived.OpenShut
import Derived.ChangeSame
import Derived.Test.YtkehcalakofigaaGreatDoorM3
import Derived.Handed
import Derived.HandedShaped
set_option linter.unusedSectionVars false
set_option linter.unusedSimpArgs false
set_option linter.unusedVariables false
namespace Go.Proofs.YtkehcalakofigaaGreatDoor.aS
variable [Lay]
open Go Go.RowKit
section
variable (P:Program)
def wZ:List Field→Nat→Option Nat
 | [],o=>some o
 | f::bY,o=>if f.offset=o then wZ bY (o+P.cellsOf f.type) else none
def uo:Bool:=(List.range P.types.size).all fun t=>match P.underlying t with
 | some (.struct bY)=>decide (wZ P bY.toList 0=some (P.cellsOf t))
 | _=>true
def dw (h:af):Nat→Nat→TypeId→List V→Prop
 | 0,_,_,_=>False
 | n+1,m,t,ad=>match P.underlying t with
   | some .bool=>∃b,ad=[.bool b]
   | some (.int k)=>∃i,ad=[.int k i]∧(Lit.int k i).wf=true
   | some .string=>∃s:List UInt8,ad=[.str s]∧s.length+1≤m
   | some (.slice e)=>1≤m∧(ad=[.bW]∨(∃b i j k,ad=[.fu b i j k])∨P.cellsOf e=0∨
      ∃b len cap,ad=[.slice b 0 len cap]∧0<len∧len≤cap∧Old h b∧∃us,Rd h b us∧us.length=len * P.cellsOf e∧∃ms:List Nat,ms.length=len∧ms.sum+1≤m∧
       ∀(i k:Nat),ms[i]? =some k→1≤k∧dw h n k e ((us.drop (i * P.cellsOf e)).take (P.cellsOf e)))
   | some (.struct bY)=>ad.length=P.cellsOf t∧∃ms:List Nat,ms.length=bY.toList.length∧ms.sum+1≤m∧∀(i:Nat) (f:Field) (k:Nat),bY.toList[i]? =some f→ms[i]? =some k→1≤k∧dw h n k f.type ((ad.drop f.offset).take (P.cellsOf f.type))
   | some (.pointer e)=>1≤m∧(ad=[.ks]∨P.cellsOf e=0∨∃b,ad=[.ptr b 0]∧Old h b∧∃us,Rd h b us∧us.length=P.cellsOf e∧∃k,k+1≤m∧dw h n k e us)
   | some (.map _ _)=>ad=[.jY]∨ad=[.bad]
   | some (.interface _)=>ad=[.nilIface]∨ad=[.bad]
   | _=>True
end
theorem dw.ext {P:Program} {h ab:af} (e:Ext h ab):∀(n m:Nat) (t:TypeId) (ad:List V),dw P h n m t ad→dw P ab n m t ad
 | 0,_,_,_,H=>H
 | n+1,m,t,ad,H=>by
   unfold dw at H ⊢
   split at H<;>try exact H
   · refine ⟨H.1,?_⟩
     rcases H.2 with H | H | H | ⟨b,len,cap,aa,ae,aI,cf,us,ck,cJ,ms,gk,gw,ko⟩
     · exact .inl H
     · exact .inr (.inl H)
     · exact .inr (.inr (.inl H))
     · exact .inr (.inr (.inr ⟨b,len,cap,aa,ae,aI,e.b0 cf,us,e.rd cf ck,cJ,ms,gk,gw,fun i k aD=>⟨(ko i k aD).1,dw.ext e n _ _ _ (ko i k aD).2⟩⟩))
   · obtain ⟨aa,ms,ae,aI,bu⟩:=H
     exact ⟨aa,ms,ae,aI,fun i f k aA aD=>⟨(bu i f k aA aD).1,dw.ext e n _ _ _ (bu i f k aA aD).2⟩⟩
   · refine ⟨H.1,?_⟩
     rcases H.2 with H | H | ⟨b,aa,cf,us,ck,cJ,k,gk,gw⟩
     · exact .inl H
     · exact .inr (.inl H)
     · exact .inr (.inr ⟨b,aa,e.b0 cf,us,e.rd cf ck,cJ,k,gk,dw.ext e n _ _ _ gw⟩)
mutual
def fa {H:Type}:DataW H→Nat
 | .lit (.string bytes)=>bytes.length+1
 | .lit _=>1
 | .nil=>1
 | .ptr d=>fa d+1
 | .slice elems spare=>kJ elems+kJ spare+1
 | .agg parts=>kJ parts+1
 | .iface _ d=>fa d+1
 | .map entries=>AP entries+1
 | .held _=>1
def kJ {H:Type}:List (DataW H)→Nat
 | []=>0
 | d::r=>fa d+kJ r
def AP {H:Type}:List (Lit × DataW H)→Nat
 | []=>0
 | x::r=>EC x+AP r
def EC {H:Type}:Lit × DataW H→Nat
 | (.string bytes,d)=>bytes.length+fa d+1
 | (_,d)=>fa d+1
end
theorem p0 {H:Type} (d:DataW H):1≤fa d:=by
 cases d with
 | lit l=>cases l<;>simp [fa]
 | _=>simp [fa]
theorem EB {H:Type}:∀l:List (DataW H),kJ l=(l.map fa).sum
 | []=>by simp [kJ]
 | d::r=>by simp only [kJ,List.map_cons,List.sum_cons,EB r]
theorem AY {w:World} {base:Nat} {a:Addr} {n:Nat} {l:List Value} (h:w.cells? base a n=some l):l.length=n∧∀i,i<n→w.cell? (a.add i)=l[i]? :=by
 unfold World.cells? at h
 split at h
 · exact ⟨by simpa using mapM_some_length h,fun i av=>mapM_some_get h i i (by simp [av])⟩
 · cases h
theorem QP {E ay:Env} (he:E.le ay) {ad:List V} {l:List Value} (H:a_ E ad l):a_ ay ad l:=a_.mono he ad l H
section
variable {H:Type} {enc:TypeId × Value→H} {P:Program} {W:World} {base:Nat} {sp:Nat→Bool} {held:Bool}
def Lays (P:Program) (W:World) (n m:Nat) (t:TypeId) (cs:List Value):Prop:=
 ∀(E:Env) (h:af),a8 ⟨W,fun _=>none⟩ E h W→∃ay ab ad,E.le ay∧Ext h ab∧a8 ⟨W,fun _=>none⟩ ay ab W∧a_ ay ad cs∧ad.length=cs.length∧dw P ab n m t ad
theorem OS (n size:Nat) (e:TypeId):∀(pieces:List (List Value)) (ms:List Nat),ms.length=pieces.length→(∀(i:Nat) (l:List Value) (k:Nat),pieces[i]? =some l→ms[i]? =some k→l.length=size∧Lays P W n k e l)→
 ∀(E:Env) (h:af),a8 ⟨W,fun _=>none⟩ E h W→∃ay ab us,E.le ay∧Ext h ab∧a8 ⟨W,fun _=>none⟩ ay ab W∧a_ ay us pieces.flatten∧us.length=pieces.length * size∧
  ∀(i k:Nat),ms[i]? =some k→dw P ab n k e ((us.drop (i * size)).take size)
 | [],[],_,_,E,h,s=>⟨E,h,[],fun _ _ q=>q,Ext.refl h,s,rfl,by simp,fun i k av=>by simp at av⟩
 | [],_::_,ak,_,_,_,_=>by simp at ak
 | _::_,[],ak,_,_,_,_=>by simp at ak
 | l::ls,m::ms,kg,aj,E,h,s=>by
   obtain ⟨ak,H⟩:=aj 0 l m rfl rfl
   obtain ⟨fv,aa,ad,bM,a2,a3,a4,a5,iq⟩:=H E h s
   obtain ⟨bV,ae,us,bR,cb,hr,lr,lu,sK⟩:=OS n size e ls ms (by simpa using kg) (fun i l k al aq=>aj (i+1) l k (by simpa using al) (by simpa using aq)) fv aa a3
   refine ⟨bV,ae,ad++us,bM.trans bR,a2.trans cb,hr,?_,?_,?_⟩
   · rw [List.flatten_cons]
     exact a_.append (QP bR a4) lr
   · rw [List.length_append,lu,a5,ak,List.length_cons,Nat.add_mul]
     omega
   · intro i k av
     cases i with
     | zero=>
       rw [Nat.zero_mul,List.drop_zero,List.take_left' (by rw [a5,ak])]
       simp only [List.getElem?_cons_zero,Option.some.injEq] at av
       subst av
       exact dw.ext cb _ _ _ _ iq
     | succ i=>
       rw [Nat.add_mul,Nat.one_mul,Nat.add_comm,←List.drop_drop,List.drop_left' (by rw [a5,ak])]
       exact sK i k (by simpa using av)
theorem OR (n:Nat):∀(bY:List Field) (ms:List Nat) (o b6:Nat) (cs:List Value),wZ P bY o=some b6→cs.length=b6→ms.length=bY.length→(∀(i:Nat) (f:Field) (k:Nat),bY[i]? =some f→ms[i]? =some k→Lays P W n k f.type ((cs.drop f.offset).take (P.cellsOf f.type)))→
 o≤b6∧∀(E:Env) (h:af),a8 ⟨W,fun _=>none⟩ E h W→∃ay ab ad,E.le ay∧Ext h ab∧a8 ⟨W,fun _=>none⟩ ay ab W∧a_ ay ad (cs.drop o)∧ad.length=b6-o∧
  ∀(i:Nat) (f:Field) (k:Nat),bY[i]? =some f→ms[i]? =some k→o≤f.offset∧dw P ab n k f.type ((ad.drop (f.offset-o)).take (P.cellsOf f.type))
 | [],_::_,_,_,_,_,_,kg,_=>by simp at kg
 | _::_,[],_,_,_,_,_,kg,_=>by simp at kg
 | [],[],o,b6,cs,aG,ak,_,_=>by
   simp only [wZ,Option.some.injEq] at aG
   subst aG
   refine ⟨Nat.le_refl _,fun E h s=>⟨E,h,[],fun _ _ q=>q,Ext.refl h,s,?_,by simp,fun i f k aA=>by simp at aA⟩⟩
   rw [List.drop_eq_nil_of_le (by omega)]
   rfl
 | f::bY,m::ms,o,b6,cs,aG,ak,kg,aj=>by
   simp only [wZ] at aG
   by_cases aA:f.offset=o
   · rw [if_pos aA] at aG
     obtain ⟨g1,g2⟩:=OR n bY ms (o+P.cellsOf f.type) b6 cs aG ak (by simpa using kg) (fun i f k al aq=>aj (i+1) f k (by simpa using al) (by simpa using aq))
     refine ⟨by omega,fun E h s=>?_⟩
     have tx:=aj 0 f m rfl rfl
     obtain ⟨fv,aa,ad,bM,a2,a3,a4,a5,iq⟩:=tx E h s
     obtain ⟨bV,ae,us,bR,cb,hr,lr,lu,sK⟩:=g2 fv aa a3
     have v7:ad.length=P.cellsOf f.type:=by rw [a5,List.length_take,List.length_drop,aA];omega
     refine ⟨bV,ae,ad++us,bM.trans bR,a2.trans cb,hr,?_,?_,?_⟩
     · have e:cs.drop o=(cs.drop f.offset).take (P.cellsOf f.type)++cs.drop (o+P.cellsOf f.type):=by
        rw [aA,←List.drop_drop,List.take_append_drop]
       rw [e]
       exact a_.append (QP bR a4) lr
     · rw [List.length_append,v7,lu]
       omega
     · intro i g k aH aD
       cases i with
       | zero=>
         simp only [List.getElem?_cons_zero,Option.some.injEq] at aH aD
         subst aH aD
         refine ⟨by omega,?_⟩
         rw [aA,Nat.sub_self,List.drop_zero,List.take_left' v7]
         exact dw.ext cb _ _ _ _ iq
       | succ i=>
         obtain ⟨bz,bN⟩:=sK i g k (by simpa using aH) (by simpa using aD)
         refine ⟨by omega,?_⟩
         rw [show g.offset-o=P.cellsOf f.type + (g.offset - (o+P.cellsOf f.type)) from by omega,←List.drop_drop,List.drop_left' v7]
         exact bN
   · rw [if_neg aA] at aG
     cases aG
theorem LJ {w:World} {a:Addr} {y:Value} (h:w.cell? a=some y):a.spot=none∧∃c el bS,w.heap[a.block]? =some (.cells c el bS)∧c[a.off]? =some y:=by
 refine ⟨World.cell?_spot h,?_⟩
 unfold World.cell? at h
 split at h
 · rename_i c el bS ba
   split at h
   · cases h
   · exact ⟨c,el,bS,ba,h⟩
 · cases h
theorem TV (a:Addr) (n:Nat):(a.add n).block=a.block:=by unfold Addr.add;split<;>rfl
theorem TW (a:Addr) (n:Nat):(a.add n).off=a.off+n:=by unfold Addr.add;split<;>simp_all
theorem ahP {w:World} {a:Addr} {l:List Value} (bb:0<l.length) (h:∀i,i<l.length→w.cell? (a.add i)=l[i]?):
 a.spot=none∧∃c el bS,w.heap[a.block]? =some (.cells c el bS)∧a.off+l.length≤c.size∧∀i,i<l.length→c[a.off+i]? =l[i]? :=by
 have ta:w.cell? (a.add 0)=some l[0]:=by rw [h 0 bb];exact List.getElem?_eq_getElem bb
 obtain ⟨s1,c,el,bS,s2,ky⟩:=LJ ta
 have cT:a.add 0=a:=by unfold Addr.add;simp
 rw [cT] at s1 s2 ky
 have key:∀i,i<l.length→c[a.off+i]? =l[i]? :=by
  intro i av
  have q:=h i av
  rw [List.getElem?_eq_getElem av] at q ⊢
  obtain ⟨_,e3,akb,ake,t2,t3⟩:=LJ q
  rw [TV,s2] at t2
  rw [TW] at t3
  simp only [Option.some.injEq,Obj.cells.injEq] at t2
  obtain ⟨rfl,_,_⟩:=t2
  exact t3
 refine ⟨s1,c,el,bS,s2,?_,key⟩
 have:=key (l.length-1) (by omega)
 rw [List.getElem?_eq_getElem (by omega)] at this
 have aN:=(Array.getElem?_eq_some_iff.1 this).1
 omega
theorem RZ {E:Env} {h:af} (s:a8 ⟨W,fun _=>none⟩ E h W) {a:Addr} {cap:Nat} {l:List Value} (bb:0<l.length) (aw:∀i,i<l.length→W.cell? (a.add i)=l[i]?) {us:List V} (aJ:a_ E us l):
 ∃ay ab b,E.le ay∧Ext h ab∧a8 ⟨W,fun _=>none⟩ ay ab W∧Old ab b∧a.spot=none∧ay b=some ⟨a.block,a.off,cap⟩∧Rd ab b us:=by
 obtain ⟨s1,c,el,bS,s2,ky,wR⟩:=ahP bb aw
 have N':us.length=l.length:=(a_.length aJ).symm
 refine ⟨pH E h ⟨a.block,a.off,cap⟩,h.new (.ro us),aC h.next,JU s _,(Ext.refl h).new _,aii s s2 (by omega) fun i v y bs a1=>?_,PS,s1,RY _ _ _,.inl (na _)⟩
 have av:i<l.length:=by
  have:=(List.getElem?_eq_some_iff.1 bs).1
  omega
 rw [wR i av] at a1
 obtain ⟨q8,aB,aO⟩:=a_.get aJ i v bs
 rw [a1] at aB
 simp only [Option.some.injEq] at aB
 rw [aB]
 exact aO
theorem MK {α:Type} (size:Nat):∀(pieces:List (List α)) (i j:Nat),(∀l ∈ pieces,l.length=size)→i<pieces.length→j<size→pieces.flatten[i * size+j]? =(pieces[i]?).bind (·[j]?)
 | [],i,j,_,av,_=>by simp at av
 | l::ls,i,j,aj,av,bH=>by
   have ak:l.length=size:=aj l (by simp)
   cases i with
   | zero=>
     rw [Nat.zero_mul,Nat.zero_add,List.flatten_cons,List.getElem?_append_left (by omega)]
     simp
   | succ i=>
     rw [List.flatten_cons,List.getElem?_append_right (by rw [ak,Nat.add_mul];omega)]
     rw [show (i+1) * size+j-l.length=i * size+j from by rw [ak,Nat.add_mul];omega]
     rw [MK size ls i j (fun l ak=>aj l (by simp [ak])) (by simpa using av) bH]
     simp
theorem MM {α:Type} (size:Nat):∀(pieces:List (List α)),(∀l ∈ pieces,l.length=size)→pieces.flatten.length=pieces.length * size
 | [],_=>by simp
 | l::ls,aj=>by
   rw [List.flatten_cons,List.length_append,MM size ls (fun l ak=>aj l (by simp [ak])),aj l (by simp),List.length_cons,Nat.add_mul]
   omega
theorem Qe {α:Type} (R:Nat→α→Prop):∀(len:Nat),(∀i,i<len→∃l,R i l)→∃bd:List α,bd.length=len∧∀i l,bd[i]? =some l→R i l
 | 0,_=>⟨[],rfl,fun i l q=>by simp at q⟩
 | m+1,h=>by
   obtain ⟨bd,al,aq⟩:=Qe R m (fun i av=>h i (by omega))
   obtain ⟨l,aa⟩:=h m (by omega)
   refine ⟨bd++[l],by simp [al],fun i dL eA=>?_⟩
   by_cases av:i<bd.length
   · rw [List.getElem?_append_left av] at eA
     exact aq i dL eA
   · rw [List.getElem?_append_right (by omega)] at eA
     have cT:i-bd.length=0:=by
      by_cases q:i-bd.length=0
      · exact q
      · rw [List.getElem?_eq_none (by simp;omega)] at eA
        cases eA
     rw [cT] at eA
     simp at eA
     subst eA
     obtain rfl:i=m:=by omega
     exact aa
theorem Cd (dH:uo P=true) (cI:laidOutB P=true):∀(n:Nat) (t:TypeId) (cs:List Value) (x:DataW H × List MemPlace),t<P.types.size→DataW.trod enc P W base sp held n t cs=some x→Lays P W n (fa x.1) t cs
 | 0,t,cs,x,_,h=>by simp [DataW.trod] at h
 | n+1,t,cs,x,aN,h=>by
   have AJ:∀(cs:List Value),(∀ab ad,ad.length=cs.length→dw P ab (n+1) (fa x.1) t ad)→Lays P W (n+1) (fa x.1) t cs:=by
    intro cs H E h s
    refine ⟨E,h,cs.map fun _=>.bad,fun _ _ q=>q,Ext.refl h,s,?_,by simp,H _ _ (by simp)⟩
    clear H
    induction cs with
    | nil=>rfl
    | cons c cs bg=>exact ⟨c,cs,rfl,by simp [Rel],bg⟩
   cases hu:P.underlying t with
   | none=>
     refine AJ cs fun ab ad _=>?_
     simp only [dw,hu]
   | some u=>
     cases u with
     | bool=>
       obtain ⟨b,rfl,_⟩:=DataW.trod_bool hu h
       intro E h s
       exact ⟨E,h,[.bool b],fun _ _ q=>q,Ext.refl h,s,⟨_,_,rfl,rfl,rfl⟩,rfl,by simp only [dw,hu];exact ⟨b,rfl⟩⟩
     | int k=>
       obtain ⟨i,rfl,_,hw⟩:=DataW.trod_int hu h
       intro E h s
       exact ⟨E,h,[.int k i],fun _ _ q=>q,Ext.refl h,s,⟨_,_,rfl,rfl,rfl⟩,rfl,by simp only [dw,hu];exact ⟨i,rfl,hw⟩⟩
     | string=>
       obtain ⟨b,rfl,rfl,_⟩:=DataW.trod_string hu h
       intro E h s
       exact ⟨E,h,[.str b.data.toList],fun _ _ q=>q,Ext.refl h,s,⟨_,_,rfl,rfl,rfl⟩,rfl,by simp only [dw,hu,fa];exact ⟨_,rfl,Nat.le_refl _⟩⟩
     | struct bY=>
       obtain ⟨xs,hz,aX,rfl,ak,v_,aA⟩:=DataW.trod_struct hu h
       obtain rfl:n=hz:=by omega
       have ab':wZ P bY.toList 0=some (P.cellsOf t):=by
        unfold uo at dH
        rw [List.all_eq_true] at dH
        have:=dH t (List.mem_range.2 aN)
        rw [hu] at this
        exact of_decide_eq_true this
       have hf:∀(i:Nat) (f:Field) (k:Nat),bY.toList[i]? =some f→(xs.map fun x=>fa x.1)[i]? =some k→Lays P W n k f.type ((cs.drop f.offset).take (P.cellsOf f.type)):=by
        intro i f k av aD
        have nc:f ∈ bY.toList:=List.mem_of_getElem? av
        have qm:bY[i]? =some f:=by simpa using av
        have:=aA i f qm
        have NL:i<xs.length:=by
         rw [v_]
         exact (Array.getElem?_eq_some_iff.1 qm).1
        rw [List.getElem?_eq_getElem NL] at this
        rw [List.getElem?_map,List.getElem?_eq_getElem NL,Option.map_some,Option.some.injEq] at aD
        subst aD
        exact Cd dH cI n _ _ _ ((kid_struct cI aN hu).1 f nc) this
       intro E h s
       obtain ⟨_,g⟩:=OR n bY.toList (xs.map fun x=>fa x.1) 0 _ cs ab' ak (by simp [v_]) hf
       obtain ⟨ay,ab,ad,bM,a2,a3,a4,a5,iq⟩:=g E h s
       refine ⟨ay,ab,ad,bM,a2,a3,by simpa using a4,by rw [a5,ak];omega,?_⟩
       simp only [dw,hu]
       refine ⟨by omega,xs.map fun x=>fa x.1,by simp [v_],?_,fun i f k nc aD=>⟨?_,by simpa using (iq i f k nc aD).2⟩⟩
       · simp only [fa,EB,List.map_map]
         exact Nat.le_refl _
       · rw [List.getElem?_map,Option.map_eq_some_iff] at aD
         obtain ⟨y,_,rfl⟩:=aD
         exact p0 _
     | slice e=>
       rcases DataW.trod_slice hu h with ⟨rfl,rfl⟩ | ⟨a,len,cap,elems,rest,hz,aX,rfl,rfl,ai,qo,_,Nw,GY,_,_⟩
       · intro E h s
         exact ⟨E,h,[.bW],fun _ _ q=>q,Ext.refl h,s,⟨_,_,rfl,rfl,rfl⟩,rfl,by simp only [dw,hu];exact ⟨p0 _,.inl trivial⟩⟩
       · obtain rfl:n=hz:=by omega
         by_cases aR:P.cellsOf e=0
         · refine AJ _ fun ab ad _=>?_
           simp only [dw,hu]
           exact ⟨p0 _,.inr (.inr (.inl aR))⟩
         by_cases mj:len=0
         · subst mj
           intro E h s
           refine ⟨E,h,[.fu .z 0 0 0],fun _ _ q=>q,Ext.refl h,s,⟨_,_,rfl,?_,rfl⟩,rfl,by simp only [dw,hu];exact ⟨p0 _,.inr (.inl ⟨_,_,_,_,rfl⟩)⟩⟩
           simp only [Rel]
           exact ⟨_,_,rfl⟩
         · -- its elements
           have ib:∀i,i<len→∃l,W.cells? base (a.add (i * P.cellsOf e)) (P.cellsOf e)=some l∧∀k:Nat,(elems.map fun x=>fa x.1)[i]? =some k→Lays P W n k e l:=by
            intro i av
            have:=GY i av
            rw [List.getElem?_eq_getElem (by omega)] at this
            rw [Option.bind_eq_some_iff] at this
            obtain ⟨l,aa,ae⟩:=this
            refine ⟨l,aa,fun k aD=>?_⟩
            rw [List.getElem?_map,List.getElem?_eq_getElem (by omega),Option.map_some,Option.some.injEq] at aD
            subst aD
            exact Cd dH cI n _ _ _ (kid_slice cI aN hu) ae
           obtain ⟨pieces,hH,hh⟩:∃pieces:List (List Value),pieces.length=len∧∀i (l:List Value),pieces[i]? =some l→W.cells? base (a.add (i * P.cellsOf e)) (P.cellsOf e)=some l∧∀k:Nat,(elems.map fun x=>fa x.1)[i]? =some k→Lays P W n k e l:=by
            exact Qe (fun i l=>W.cells? base (a.add (i * P.cellsOf e)) (P.cellsOf e)=some l∧∀k:Nat,(elems.map fun x=>fa x.1)[i]? =some k→Lays P W n k e l) len ib
           have hX:∀(i:Nat) (l:List Value) (k:Nat),pieces[i]? =some l→(elems.map fun x=>fa x.1)[i]? =some k→l.length=P.cellsOf e∧Lays P W n k e l:=by
            intro i l k av aD
            obtain ⟨al,aq⟩:=hh i l av
            exact ⟨(AY al).1,aq k aD⟩
           have NY:∀l ∈ pieces,l.length=P.cellsOf e:=by
            intro l ak
            obtain ⟨i,av⟩:=List.getElem?_of_mem ak
            exact (AY (hh i l av).1).1
           intro E h s
           obtain ⟨fv,aa,us,bM,a2,a3,a4,a5,iq⟩:=OS n (P.cellsOf e) e pieces (elems.map fun x=>fa x.1) (by simp [Nw,hH]) hX E h s
           have hf:=MM (P.cellsOf e) pieces NY
           have yr:0<len * P.cellsOf e:=Nat.mul_pos (by omega) (by omega)
           have qh:∀i,i<pieces.flatten.length→W.cell? (a.add i)=pieces.flatten[i]? :=by
            intro q aF
            rw [hf] at aF
            have NQ:q % P.cellsOf e<P.cellsOf e:=Nat.mod_lt _ (by omega)
            have hdiv:q / P.cellsOf e<pieces.length:=Nat.div_lt_of_lt_mul (by rw [Nat.mul_comm];exact aF)
            have vP:q / P.cellsOf e * P.cellsOf e+q % P.cellsOf e=q:=by rw [Nat.mul_comm];exact Nat.div_add_mod q _
            rw [←vP,MK (P.cellsOf e) pieces _ _ NY hdiv NQ,List.getElem?_eq_getElem hdiv]
            obtain ⟨al,_⟩:=hh _ _ (List.getElem?_eq_getElem hdiv)
            have:=(AY al).2 _ NQ
            rw [Option.bind_some,←this]
            congr 1
            unfold Addr.add
            by_cases cy:q / P.cellsOf e * P.cellsOf e=0
            · rw [cy];simp
            · by_cases z2:q % P.cellsOf e=0
              · rw [z2];simp
              · have z3:¬(q / P.cellsOf e * P.cellsOf e+q % P.cellsOf e=0):=by omega
                rw [if_neg cy,if_neg z2,if_neg z3]
                simp [Nat.add_assoc]
           obtain ⟨bV,ae,b,bR,cb,hr,lr,lu,sK,Ev⟩:=RZ a3 (cap:=cap) (by rw [hf,hH];exact yr) qh a4
           refine ⟨bV,ae,[.slice b 0 len cap],bM.trans bR,a2.trans cb,hr,⟨_,_,rfl,?_,rfl⟩,rfl,?_⟩
           · simp only [Rel]
             refine ⟨_,sK,qo,?_⟩
             obtain ⟨mV,agl,st⟩:=a
             simp only at lu
             subst lu
             rfl
           · simp only [dw,hu]
             refine ⟨p0 _,.inr (.inr (.inr ⟨b,len,cap,rfl,by omega,qo,lr,us,Ev,by rw [a5,hH],elems.map fun x=>fa x.1,by simp [Nw],?_,fun i k aD=>⟨?_,dw.ext cb _ _ _ _ (iq i k aD)⟩⟩))⟩
             · simp only [fa,EB,List.map_map]
               exact Nat.add_le_add_right (Nat.le_add_right _ _) 1
             · rw [List.getElem?_map,Option.map_eq_some_iff] at aD
               obtain ⟨y,_,rfl⟩:=aD
               exact p0 _
     | pointer e=>
       rcases DataW.trod_pointer hu h with ⟨rfl,rfl⟩ | ⟨a,nN,y,hz,aX,rfl,rfl,aw,a1⟩
       · intro E h s
         exact ⟨E,h,[.ks],fun _ _ q=>q,Ext.refl h,s,⟨_,_,rfl,rfl,rfl⟩,rfl,by simp only [dw,hu];exact ⟨p0 _,.inl trivial⟩⟩
       · obtain rfl:n=hz:=by omega
         by_cases aR:P.cellsOf e=0
         · refine AJ _ fun ab ad _=>?_
           simp only [dw,hu]
           exact ⟨p0 _,.inr (.inl aR)⟩
         · intro E h s
           obtain ⟨al,aq⟩:=AY aw
           obtain ⟨fv,aa,us,bM,a2,a3,a4,a5,iq⟩:=Cd dH cI n _ _ _ (kid_pointer cI aN hu) a1 E h s
           obtain ⟨bV,ae,b,bR,cb,hr,lr,lu,sK,Ev⟩:=RZ a3 (cap:=0) (by omega) (fun i av=>aq i (by omega)) a4
           refine ⟨bV,ae,[.ptr b 0],bM.trans bR,a2.trans cb,hr,⟨_,_,rfl,?_,rfl⟩,rfl,?_⟩
           · simp only [Rel]
             refine ⟨_,sK,?_⟩
             obtain ⟨mV,agl,st⟩:=a
             simp only at lu
             subst lu
             rfl
           · simp only [dw,hu]
             exact ⟨p0 _,.inr (.inr ⟨b,rfl,lr,us,Ev,by omega,_,Nat.le_refl _,dw.ext cb _ _ _ _ iq⟩)⟩
     | map k e=>
       have fU:cs.length=1:=by
        unfold DataW.trod at h
        rw [hu] at h
        split at h<;>simp_all
       intro E h s
       refine ⟨E,h,[.bad],fun _ _ q=>q,Ext.refl h,s,?_,by simp [fU],by simp only [dw,hu];exact .inr trivial⟩
       match cs,fU with
       | [c],_=>exact ⟨c,[],rfl,by simp [Rel],rfl⟩
     | interface ms=>
       have fU:cs.length=1:=by
        unfold DataW.trod at h
        rw [hu] at h
        split at h<;>simp_all
       intro E h s
       refine ⟨E,h,[.bad],fun _ _ q=>q,Ext.refl h,s,?_,by simp [fU],by simp only [dw,hu];exact .inr trivial⟩
       match cs,fU with
       | [c],_=>exact ⟨c,[],rfl,by simp [Rel],rfl⟩
     | _=>
       refine AJ cs fun ab ad _=>?_
       simp only [dw,hu]
def oS (P:Program) (h:af) (n m:Nat) (t:TypeId) (v:V):Prop:=
 match P.underlying t with
 | some (.struct _) | some (.array _ _)=>∃ad,v=.agg ad∧dw P h n m t ad
 | _=>dw P h n m t [v]
theorem oS.ext {h ab:af} (e:Ext h ab) {n m:Nat} {t:TypeId} {v:V} (H:oS P h n m t v):oS P ab n m t v:=by
 unfold oS at H ⊢
 split at H
 · obtain ⟨ad,al,aq⟩:=H
   exact ⟨ad,al,dw.ext e _ _ _ _ aq⟩
 · obtain ⟨ad,al,aq⟩:=H
   exact ⟨ad,al,dw.ext e _ _ _ _ aq⟩
 · exact dw.ext e _ _ _ _ H
theorem ae7 (dH:uo P=true) (cI:laidOutB P=true) {r:Reach} {oU:Nat} {t:TypeId} {v:Value} {d:DataW H} {p:List MemPlace} (aN:t<P.types.size) (bl:Value.okWide P W r oU t v) (aY:DataW.Trod enc P W base sp held t v d p) {E:Env} {h:af} (s:a8 ⟨W,fun _=>none⟩ E h W):
 ∃n ay ab x,E.le ay∧Ext h ab∧a8 ⟨W,fun _=>none⟩ ay ab W∧Rel ay x v∧oS P ab n (fa d) t x:=by
 obtain ⟨fuel,aA⟩:=aY
 obtain ⟨ay,ab,ad,bM,a2,a3,a4,a5,iq⟩:=Cd dH cI _ _ _ _ aN aA E h s
 have agg:(∃cs,v=.agg cs)→∃x,Rel ay x v∧x=.agg ad:=by
  rintro ⟨cs,rfl⟩
  exact ⟨.agg ad,by simp only [Rel];exact ⟨cs,rfl,a4⟩,rfl⟩
 have one:v.cells=#[v]→∃x,Rel ay x v∧ad=[x]:=by
  intro aw
  rw [aw] at a4 a5
  match ad,a4,a5 with
  | [x],⟨y,cm,aB,aO,cc⟩,_=>
    simp only [List.cons.injEq] at aB
    exact ⟨x,aB.1 ▸ aO,rfl⟩
 refine ⟨fuel,ay,ab,?_⟩
 unfold Value.okWide at bl
 cases hu:P.underlying t with
 | none=>
   rw [hu] at bl
   simp only [Cell.okWide,Cell.ok,hu] at bl
 | some u=>
   rw [hu] at bl
   unfold oS
   rw [hu]
   cases u<;>simp only at bl ⊢<;>first
    | (obtain ⟨cs,bs,_⟩:=bl
       obtain ⟨x,al,aq⟩:=agg ⟨cs,bs⟩
       exact ⟨x,bM,a2,a3,al,ad,aq,iq⟩)
    | (have aw:v.cells=#[v]:=by
        cases v<;>first
         | rfl
         | (simp only [Cell.okWide,Cell.ok,hu] at bl)
       obtain ⟨x,al,aq⟩:=one aw
       exact ⟨x,bM,a2,a3,al,aq ▸ iq⟩)
def l' (P:Program) (h:af):Nat→List TypeId→List V→Prop
 | _,[],[]=>True
 | m,t::cx,v::ad=>∃k bn,k+bn≤m∧(∃n,oS P h n k t v)∧l' P h bn cx ad
 | _,_,_=>False
theorem l'.mono {h:af}:∀{m c':Nat} {cx:List TypeId} {ad:List V},m≤c'→l' P h m cx ad→l' P h c' cx ad
 | _,_,[],[],_,H=>by unfold l';trivial
 | _,_,[],_::_,_,H=>H.elim
 | _,_,_::_,[],_,H=>H.elim
 | _,_,_::_,_::_,hm,⟨k,bn,aD,H,iY⟩=>⟨k,bn,Nat.le_trans aD hm,H,iY⟩
theorem OQ (dH:uo P=true) (cI:laidOutB P=true) {r:Reach} {oU:Nat}:∀{cx:List TypeId} {ad:List Value} {ds:List (DataW H)} {p:List MemPlace},(∀t ∈ cx,t<P.types.size)→(∀(j:Nat) t v,cx[j]? =some t→ad[j]? =some v→Value.okWide P W r oU t v)→
 DataW.TrodAll enc P W base sp held cx ad ds p→∀{E:Env} {h:af},a8 ⟨W,fun _=>none⟩ E h W→∃ay ab xs,E.le ay∧Ext h ab∧a8 ⟨W,fun _=>none⟩ ay ab W∧a_ ay xs ad∧l' P ab (kJ ds) cx xs
 | [],[],ds,p,_,_,_,E,h,s=>⟨E,h,[],fun _ _ q=>q,Ext.refl h,s,rfl,by unfold l';trivial⟩
 | [],_::_,ds,p,_,_,aY,E,h,s=>by cases ds<;>exact aY.elim
 | _::_,[],ds,p,_,_,aY,E,h,s=>by cases ds<;>exact aY.elim
 | _::_,_::_,[],p,_,_,aY,E,h,s=>aY.elim
 | t::cx,v::ad,d::ds,p,aG,bs,⟨b1,cg,aa,ae,_⟩,E,h,s=>by
   obtain ⟨n,fv,g1,x,bM,a2,a3,a4,a5⟩:=ae7 dH cI (aG t (by simp)) (bs 0 t v rfl rfl) aa s
   obtain ⟨bV,g2,xs,bR,cb,hr,lr,lu⟩:=OQ dH cI (fun t q=>aG t (by simp [q])) (fun j t v al aq=>bs (j+1) t v (by simpa using al) (by simpa using aq)) ae a3
   exact ⟨bV,g2,x::xs,bM.trans bR,a2.trans cb,hr,⟨_,_,rfl,Rel.mono bR _ _ a4,lr⟩,fa d,kJ ds,by simp only [kJ];exact Nat.le_refl _,⟨n,a5.ext cb⟩,lu⟩
theorem X2 (dH:uo P=true) (cI:laidOutB P=true) {r:Reach} {oU:Nat} {f:FuncId} {cx:List TypeId} {ad:List Value} {ds:List (DataW H)} {p:List MemPlace} (eS:∀t ∈ cx,t<P.types.size) (bs:∀(j:Nat) t v,cx[j]? =some t→ad[j]? =some v→Value.okWide P W r oU t v)
 (aY:DataW.TrodAll enc P W base sp held cx ad ds p) (vx:Lay.ok W) (bD:ec P) (ai:∃fn,P.funcs[f]? =some fn∧fn.body.isSome=true) (aw:∀(h:af) (xs:List V),l' P h (kJ ds) cx xs→bB P f xs h fun y _=>y=.bool true):
 Calls P f ad.toArray W fun e ar=>e=.returned (.bool true)∧Below W.heap.size W ar:=by
 obtain ⟨E,h,xs,_,_,a3,a4,a5⟩:=OQ dH cI eS bs aY (Dh W vx)
 obtain ⟨y,ab,nX,rfl⟩:=aw h xs a5
 refine (nX.calls bD ai _ E W ad a4 a3).mono fun e ar q=>?_
 obtain ⟨ay,x,rfl,_,aq,aK⟩:=q
 simp only [Rel] at aq
 subst aq
 exact ⟨rfl,aK.frame⟩
end
end Go.Proofs.YtkehcalakofigaaGreatDoor.aS
namespace Go.Proofs.YtkehcalakofigaaGreatDoor.aS
variable [Lay]
open Go Go.RowKit
section
variable {P:Program} {h:af} {n m:Nat} {t:TypeId}
theorem dw.pos {ad:List V} (H:dw P h n m t ad):∃k,n=k+1:=by
 cases n with
 | zero=>exact H.elim
 | succ m=>exact ⟨m,rfl⟩
theorem dw.int {ad:List V} {k:IntKind} (H:dw P h n m t ad) (hu:P.underlying t=some (.int k)):∃i,ad=[.int k i]∧(Lit.int k i).wf=true:=by
 obtain ⟨m,rfl⟩:=H.pos
 simpa only [dw,hu] using H
theorem dw.str {ad:List V} (H:dw P h n m t ad) (hu:P.underlying t=some .string):∃s:List UInt8,ad=[.str s]∧s.length+1≤m:=by
 obtain ⟨_,rfl⟩:=H.pos
 simpa only [dw,hu] using H
theorem dw.struct {ad:List V} {bY:Array Field} (H:dw P h n m t ad) (hu:P.underlying t=some (.struct bY)):∃hz,n=hz+1∧ad.length=P.cellsOf t∧∃ms:List Nat,ms.length=bY.toList.length∧ms.sum+1≤m∧
 ∀(i:Nat) (f:Field) (k:Nat),bY.toList[i]? =some f→ms[i]? =some k→1≤k∧dw P h hz k f.type ((ad.drop f.offset).take (P.cellsOf f.type)):=by
 obtain ⟨hz,rfl⟩:=H.pos
 refine ⟨hz,rfl,?_⟩
 simpa only [dw,hu] using H
def sh (v:V):Prop:=∀b off l c,v=.slice b off l c→l≤c
def KD (h:af) (size:Nat) (v:V) (len m:Nat) (Q:Nat→List V→Prop):Prop:=
 v.one=true∧v.cells=[v]∧v.e5=true∧jn v=some (.int .i64 len)∧sh v∧∃(us:List V) (ms:List Nat),et h size v len us∧ms.length=len∧ms.sum+1≤m∧∀(i k:Nat),ms[i]? =some k→1≤k∧Q k ((us.drop (i * size)).take size)
theorem dw.slice {ad:List V} {e:TypeId} (H:dw P h n m t ad) (hu:P.underlying t=some (.slice e)) (aR:P.cellsOf e≠0):∃hz v len,n=hz+1∧ad=[v]∧KD h (P.cellsOf e) v len m (fun k=>dw P h hz k e):=by
 obtain ⟨hz,rfl⟩:=H.pos
 simp only [dw,hu] at H
 obtain ⟨bb,H⟩:=H
 rcases H with rfl | ⟨b,i,j,k,rfl⟩ | q | ⟨b,len,cap,rfl,aa,ae,bu,us,ck,cJ,ms,gk,gw,ko⟩
 · exact ⟨hz,_,0,rfl,rfl,rfl,rfl,rfl,rfl,(fun _ _ _ _ e=>by cases e),[],[],⟨by simp,rfl⟩,rfl,by simpa using bb,fun i k av=>by simp at av⟩
 · exact ⟨hz,_,0,rfl,rfl,rfl,rfl,rfl,rfl,(fun _ _ _ _ e=>by cases e),[],[],⟨by simp,rfl⟩,rfl,by simpa using bb,fun i k av=>by simp at av⟩
 · exact absurd q aR
 · exact ⟨hz,_,len,rfl,rfl,rfl,rfl,rfl,rfl,(fun _ _ _ _ e=>by cases e;exact ae),us,ms,⟨cJ,rfl,bu,us,ck,by omega,by simp⟩,gk,gw,ko⟩
end
end Go.Proofs.YtkehcalakofigaaGreatDoor.aS
namespace Go.Proofs.YtkehcalakofigaaGreatDoor.aS
variable [Lay]
open Go Go.RowKit Go.ChangeShapes Go.WideShapes
section
variable {H:Type} {enc:TypeId × Value→H} {P:Program}
theorem K4 (cI:laidOutB P=true) {W xp:World} (ai:Below W.heap.size W xp):∀{cx:List TypeId} {ad:List Value} {ds:List (DataW H)} {bd:List MemPlace},(cx.all fun t=>P.readableRec t&&decide (t<P.types.size))=true→
 DataW.TrodAll enc P W 0 (fun _=>true) true cx ad ds bd→DataW.TrodAll enc P xp 0 (fun b=>decide (b<W.heap.size)) true cx ad ds bd
 | [],[],[],_,_,h=>h
 | [],_::_,_,_,_,h=>by rename_i ds _;cases ds<;>exact h.elim
 | [],[],_::_,_,_,h=>h.elim
 | _::_,[],_,_,_,h=>by rename_i ds _;cases ds<;>exact h.elim
 | _::_,_::_,[],_,_,h=>h.elim
 | t::cx,v::ad,d::ds,bd,aJ,h=>by
   have aN:=h.lt
   obtain ⟨p,q,aa,ae,rfl⟩:=h
   simp only [List.all_cons,Bool.and_eq_true,decide_eq_true_eq] at aJ
   exact ⟨p,q,Below.trod cI aJ.1.1 aJ.1.2 aa ai (fun x au=>aN x (by simp [au])),K4 cI ai aJ.2 ae,rfl⟩
theorem RN {W:World} {base:Nat} {sp:Nat→Bool} {held:Bool}:∀{cx:List TypeId} {ad:List Value} {ds:List (DataW H)} {bd:List MemPlace},DataW.TrodAll enc P W base sp held cx ad ds bd→ds.length=cx.length
 | [],[],[],_,_=>rfl
 | [],_::_,ds,_,h=>by cases ds<;>exact h.elim
 | [],[],_::_,_,h=>h.elim
 | _::_,[],ds,_,h=>by cases ds<;>exact h.elim
 | _::_,_::_,[],_,h=>h.elim
 | t::cx,v::ad,d::ds,bd,h=>by
   obtain ⟨p,q,aa,ae,rfl⟩:=h
   simp [RN ae]
theorem aeV (dH:uo P=true) (cI:laidOutB P=true) {f:FuncId} {fn:Func} {s:ChangeSpec} {JO:TypeId} (eS:(fn.params.toList.all fun t=>P.readableRec t&&decide (t<P.types.size))=true) (Oc:s.vars=[]) (abZ:fn.resultTypes=#[JO]) (acf:P.underlying JO=some .bool)
 (HF:∀ds:List (DataW H),ds.length=fn.params.size→s.fn H (ds++[])={results:=[.lit (.bool true)],args:=ds})
 {B:Nat} (aw:∀(h:af) (xs:List V),l' P h B fn.params.toList xs→bB P f xs h fun y _=>y=.bool true)
 {W:World} {base:Nat} {args:Array Value} {ds gs:List (DataW H)} {before:List MemPlace} (aD:kJ (ds++gs)≤B) (jR:Lay.ok W) (bD:ec P) (ai:∃fn,P.funcs[f]? =some fn∧fn.body.isSome=true)
 (HK:∀(j:Nat) t v,fn.params[j]? =some t→args[j]? =some v→Value.okWide P W .any base t v) (vx:DataW.Whole enc P fn.params.toList s.vars false W args.toList ds gs before):
 Calls P f args W fun e xp=>∃v,e=.returned v∧s.post enc P fn false true false false W args v xp:=by
 have aaI:=vx
 obtain ⟨p,q,lH,Nk,rfl,o8,nd⟩:=vx
 rw [Oc] at Nk
 obtain ⟨rfl,rfl⟩:=trodVars_none Nk
 have hlen:ds.length=fn.params.size:=by rw [RN lH];simp
 have hw:=X2 dH cI (oU:=base) (r:=.any) (fun t aG=>by
  have:=List.all_eq_true.1 eS t aG
  simp only [Bool.and_eq_true,decide_eq_true_eq] at this
  exact this.2) (fun j t v aa ae=>HK j t v (by simpa using aa) (by simpa using ae)) lH jR bD ai (fun h xs q=>aw h xs (q.mono (by simpa using aD)))
 simp only [Array.toArray_toList] at hw
 refine hw.mono fun e xp ⟨he,K3⟩=>?_
 subst he
 refine ⟨_,rfl,ds,[],p++[],[],p,[],aaI,?_,?_,?_,K3.frame _,fun h=>by cases h⟩
 · rw [HF ds hlen,abZ]
   exact trodAll_mk1 (shut_bool acf _)
 · rw [HF ds hlen]
   exact K4 cI K3 eS lH
 · rw [HF ds hlen,Oc]
   rfl
end
end Go.Proofs.YtkehcalakofigaaGreatDoor.aS
namespace Go.Proofs.YtkehcalakofigaaGreatDoor.aS
variable [Lay]
open Go Go.RowKit
theorem aic {P:Program} {h:af} {B:Nat} {xs:List V} (aR:l' P h B [] xs):xs=[]:=by
 match xs,aR with
 | [],_=>rfl
theorem Rj {P:Program} {h:af} {B:Nat} {t:TypeId} {cx:List TypeId} {xs:List V} (aR:l' P h B (t::cx) xs):∃a AA k bn n,xs=a::AA∧k+bn≤B∧oS P h n k t a∧l' P h bn cx AA:=by
 match xs,aR with
 | a::AA,⟨k,bn,aD,⟨n,bb⟩,aa⟩=>exact ⟨a,AA,k,bn,n,rfl,aD,bb,aa⟩
section
variable {P:Program} {h:af} {n m:Nat} {t:TypeId} {v:V}
theorem Rk {bY:Array Field} (aR:oS P h n m t v) (hu:P.underlying t=some (.struct bY)):∃ad,v=.agg ad∧dw P h n m t ad:=by
 unfold oS at aR
 rw [hu] at aR
 exact aR
end
end Go.Proofs.YtkehcalakofigaaGreatDoor.aS
namespace Go.Proofs.YtkehcalakofigaaGreatDoor.aS
variable [Lay]
open Go Go.RowKit
inductive D where
 | i (k:IntKind) (n:Int)
 | b (x:Bool)
 | s (x:List UInt8)
 | l (size:Nat) (es:List (List D))
inductive bZ (F:aQ→Prop) (h:af):List D→List V→Prop
 | nil:bZ F h [] []
 | i {k:IntKind} {n:Int} {ds:List D} {ad:List V} (t:bZ F h ds ad):bZ F h (.i k n::ds) (.int k n::ad)
 | b {x:Bool} {ds:List D} {ad:List V} (t:bZ F h ds ad):bZ F h (.b x::ds) (.bool x::ad)
 | s {x:List UInt8} {ds:List D} {ad:List V} (ai:x.length≤top) (t:bZ F h ds ad):bZ F h (.s x::ds) (.str x::ad)
 | l {size:Nat} {es:List (List D)} {v:V} {us:List (List V)} {ds:List D} {ad:List V} (aJ:sh v) (ai:es.length≤top) (aR:et h size v es.length us.flatten) (hu:us.length=es.length) (bj:∀u ∈ us,u.length=size)
    (kids:∀(i:Nat) (e:List D) (u:List V),es[i]? =some e→us[i]? =some u→bZ F h e u) (aA:∀b,v.a7 b→F b) (t:bZ F h ds ad):bZ F h (.l size es::ds) (v::ad)
structure bI (F:aQ→Prop) (h:af) (size:Nat) (es:List (List D)) (v:V):Prop where
 room:sh v
 le:es.length≤top
 ex:∃us:List (List V),et h size v es.length us.flatten∧us.length=es.length∧(∀u ∈ us,u.length=size)∧∀(i:Nat) (e:List D) (u:List V),es[i]? =some e→us[i]? =some u→bZ F h e u
 vl:∀b,v.a7 b→F b
section
variable {F:aQ→Prop} {h ab:af} {ds:List D} {ad:List V}
theorem bZ.mod {dJ M:aQ→Prop} (m:Mod M h ab) (c1:∀b,F b→Old h b→¬M b∧dJ b) (H:bZ F h ds ad):bZ dJ ab ds ad:=by
 induction H with
 | nil=>exact .nil
 | i t bg=>exact .i bg
 | b t bg=>exact .b bg
 | s ai t bg=>exact .s ai bg
 | l aJ ai aR hu bj kids aA t rQ qC=>exact .l aJ ai (aR.mod m fun b q=>(c1 b (aA b q) (aR.b0 q)).1) hu bj rQ (fun b q=>(c1 b (aA b q) (aR.b0 q)).2) qC
theorem bZ.ext (H:bZ F h ds ad) (e:Ext h ab):bZ F ab ds ad:=by
 induction H with
 | nil=>exact .nil
 | i t bg=>exact .i bg
 | b t bg=>exact .b bg
 | s ai t bg=>exact .s ai bg
 | l aJ ai aR hu bj kids aA t rQ qC=>exact .l aJ ai (aR.ext e) hu bj rQ aA qC
theorem bZ.hQ {dJ:aQ→Prop} (H:bZ F h ds ad) (w:∀b,F b→dJ b):bZ dJ h ds ad:=by
 induction H with
 | nil=>exact .nil
 | i t bg=>exact .i bg
 | b t bg=>exact .b bg
 | s ai t bg=>exact .s ai bg
 | l aJ ai aR hu bj kids aA t rQ qC=>exact .l aJ ai aR hu bj rQ (fun b q=>w b (aA b q)) qC
theorem bZ.b0 (H:bZ F h ds ad):bZ (fun b=>F b∧Old h b) h ds ad:=by
 induction H with
 | nil=>exact .nil
 | i t bg=>exact .i bg
 | b t bg=>exact .b bg
 | s ai t bg=>exact .s ai bg
 | l aJ ai aR hu bj kids aA t rQ qC=>exact .l aJ ai aR hu bj rQ (fun b q=>⟨aA b q,aR.b0 q⟩) qC
theorem bZ.eg (H:bZ F h ds ad):eg ad=true:=by
 induction H with
 | nil=>rfl
 | i t bg=>simpa [Go.Proofs.YtkehcalakofigaaGreatDoor.aS.eg,V.one] using bg
 | b t bg=>simpa [Go.Proofs.YtkehcalakofigaaGreatDoor.aS.eg,V.one] using bg
 | s ai t bg=>simpa [Go.Proofs.YtkehcalakofigaaGreatDoor.aS.eg,V.one] using bg
 | l aJ ai aR hu bj kids aA t rQ qC=>simp only [Go.Proofs.YtkehcalakofigaaGreatDoor.aS.eg,aR.one.1,qC,Bool.and_self]
theorem bZ.int {k:IntKind} {n:Int} (H:bZ F h (.i k n::ds) ad):∃us,ad=.int k n::us∧bZ F h ds us:=by
 cases H with
 | i t=>exact ⟨_,rfl,t⟩
theorem bZ.str {x:List UInt8} (H:bZ F h (.s x::ds) ad):∃us,ad=.str x::us∧x.length≤top∧bZ F h ds us:=by
 cases H with
 | s ai t=>exact ⟨_,rfl,ai,t⟩
theorem bZ.eC {size:Nat} {es:List (List D)} (H:bZ F h (.l size es::ds) ad):∃v us,ad=v::us∧bI F h size es v∧bZ F h ds us:=by
 cases H with
 | l aJ ai aR hu bj kids aA t=>exact ⟨_,_,rfl,⟨aJ,ai,⟨_,aR,hu,bj,kids⟩,aA⟩,t⟩
theorem bZ.no (H:bZ F h [] ad):ad=[]:=by cases H;rfl
end
theorem F_ {size:Nat}:∀(us:List (List V)) (i:Nat) (u:List V),(∀u ∈ us,u.length=size)→us[i]? =some u→(us.flatten.drop (i * size)).take size=u
 | [],i,u,_,h=>by simp at h
 | w::us,0,u,ak,h=>by
   simp only [List.getElem?_cons_zero,Option.some.injEq] at h
   subst h
   rw [Nat.zero_mul,List.drop_zero,List.flatten_cons,List.take_left' (ak _ (by simp))]
 | w::us,i+1,u,ak,h=>by
   rw [show (i+1) * size=size+i * size from by rw [Nat.succ_mul,Nat.add_comm],←List.drop_drop,List.flatten_cons,List.drop_left' (ak _ (by simp))]
   exact F_ us i u (fun u hu=>ak u (by simp [hu])) (by simpa using h)
theorem Bk {size:Nat}:∀(us:List (List V)),(∀u ∈ us,u.length=size)→us.flatten.length=us.length * size
 | [],_=>by simp
 | w::us,ak=>by rw [List.flatten_cons,List.length_append,ak w (by simp),Bk us (fun u hu=>ak u (by simp [hu])),List.length_cons,Nat.succ_mul,Nat.add_comm]
section
variable {F:aQ→Prop} {h ab:af} {size:Nat} {es:List (List D)} {v:V}
theorem bI.cons {ds:List D} {ad:List V} (H:bI F h size es v) (t:bZ F h ds ad):bZ F h (.l size es::ds) (v::ad):=by
 obtain ⟨us,a,b,c,d⟩:=H.ex
 exact .l H.room H.le a b c d H.vl t
theorem bI.ext (H:bI F h size es v) (e:Ext h ab):bI F ab size es v:=by
 obtain ⟨us,a,b,c,d⟩:=H.ex
 exact ⟨H.room,H.le,⟨us,a.ext e,b,c,fun i x u al aq=>(d i x u al aq).ext e⟩,H.vl⟩
theorem bI.mod {dJ M:aQ→Prop} (m:Mod M h ab) (c1:∀b,F b→Old h b→¬M b∧dJ b) (H:bI F h size es v):bI dJ ab size es v:=by
 obtain ⟨us,a,b,c,d⟩:=H.ex
 exact ⟨H.room,H.le,⟨us,a.mod m fun x q=>(c1 x (H.vl x q) (a.b0 q)).1,b,c,fun i x u al aq=>(d i x u al aq).mod m c1⟩,fun x q=>(c1 x (H.vl x q) (a.b0 q)).2⟩
theorem bI.hQ {dJ:aQ→Prop} (H:bI F h size es v) (w:∀b,F b→dJ b):bI dJ h size es v:=by
 obtain ⟨us,a,b,c,d⟩:=H.ex
 exact ⟨H.room,H.le,⟨us,a,b,c,fun i x u al aq=>(d i x u al aq).hQ w⟩,fun b q=>w b (H.vl b q)⟩
theorem bI.len (H:bI F h size es v):jn v=some (.int .i64 es.length):=by
 obtain ⟨us,a,_⟩:=H.ex
 exact a.len
theorem bI.one (H:bI F h size es v):v.one=true∧v.cells=[v]∧v.e5=true:=by
 obtain ⟨us,a,_⟩:=H.ex
 exact a.one
theorem bI.nil (F:aQ→Prop) (h:af) (size:Nat):bI F h size [] .bW:=⟨fun b o l c e=>(by cases e),Nat.zero_le _,⟨[],⟨by simp,rfl⟩,rfl,fun u hu=>(by cases hu),fun i e u q=>(by simp at q)⟩,fun b q=>q.elim⟩
theorem bI.at (H:bI F h size es v) {k:IntKind} {i:Nat} (av:i<es.length):
 ∃b off u,hY size v (.int k i)=some (.ptr b (off+i * size))∧bZ F h es[i] u∧u.length=size∧(∀ab,Ext h ab→mx size (ab.get b) (off+i * size)=some (.agg u))∧∀ab,Ext h ab→∀j,j<size→hj (ab.get b) (off+i * size+j)=u[j]? :=by
 obtain ⟨us,aa,ae,ak,aI⟩:=H.ex
 have yd:i<us.length:=by omega
 have hu:=List.getElem?_eq_getElem yd
 obtain ⟨b,off,aB,aO⟩:=aa.b_ (k:=k) av
 have aA:=F_ us i _ ak hu
 have hf:=Bk us ak
 have hle:i * size+size≤us.length * size:=by
  have:=Nat.mul_le_mul_right size (show i+1≤us.length by omega)
  rw [Nat.succ_mul] at this
  exact this
 have N':us[i].length=size:=ak _ (List.getElem_mem yd)
 refine ⟨b,off,us[i],aB,aI i _ _ (List.getElem?_eq_getElem av) hu,N',fun ab e=>?_,fun ab e j bH=>?_⟩
 · rw [(aO.ext e).iQ (i:=i * size) (n:=size) (by omega),aA]
 · rw [Nat.add_assoc,(aO.ext e).gl (i:=i * size+j) (by omega)]
   have:((us.flatten.drop (i * size)).take size)[j]? =us[i][j]? :=by rw [aA]
   rw [List.getElem?_take_of_lt bH,List.getElem?_drop] at this
   rw [←this,List.getElem?_eq_getElem (by omega)]
end
end Go.Proofs.YtkehcalakofigaaGreatDoor.aS
namespace Go.Proofs.YtkehcalakofigaaGreatDoor.aS
variable [Lay]
open Go Go.RowKit
def Any (_:aQ):Prop:=True
theorem RF:∀{ms:List Nat},(∀(i k:Nat),ms[i]? =some k→1≤k)→ms.length≤ms.sum
 | [],_=>Nat.le_refl _
 | m::ms,h=>by
   have bb:=h 0 m rfl
   have:=RF (ms:=ms) fun i k q=>h (i+1) k (by simpa using q)
   simp only [List.length_cons,List.sum_cons]
   omega
theorem RE:∀{ms:List Nat} {i k:Nat},ms[i]? =some k→k≤ms.sum
 | [],_,_,h=>by simp at h
 | m::ms,0,k,h=>by simp only [List.getElem?_cons_zero,Option.some.injEq] at h;subst h;simp only [List.sum_cons];omega
 | m::ms,i+1,k,h=>by
   have:=RE (ms:=ms) (i:=i) (k:=k) (by simpa using h)
   simp only [List.sum_cons];omega
structure Has (h:af) (n:Nat) (l:List V):Prop where
 lt:n<h.next
 g:h.get (aC n)=.bh l 0 false
theorem Has.ext {h ab:af} {n:Nat} {l:List V} (B:Has h n l) (e:Ext h ab):Has ab n l:=⟨Nat.lt_of_lt_of_le B.lt e.next,(e.get _ (gz B.lt)).trans B.g⟩
theorem fo (h:af) (l:List V):∃H,h.new (.bh l 0 false)=H∧Ext h H∧Has H h.next l:=⟨_,rfl,(Ext.refl h).new _,by rw [gx];omega,na _⟩
theorem ja (h:af) (z l:List V):∃H,(h.new (.bh z 0 false)).set (aC h.next) (.bh l 0 false)=H∧Ext h H∧Has H h.next l:=
 ⟨_,rfl,((Ext.refl h).new _).set (Nat.le_refl _) _,by rw [nx,gx];omega,by rw [dG,if_pos rfl]⟩
theorem Has.set {h:af} {n m:Nat} {l:List V} (B:Has h n l) (hm:n≠m) (k:b3):Has (h.set (aC m) k) n l:=⟨by rw [nx];exact B.lt,by rw [dG,if_neg (by rw [qN];exact fun q=>hm q.symm)];exact B.g⟩
theorem Has.put {h:af} {n:Nat} {l:List V} (B:Has h n l) (dL:List V):Has (h.set (aC n) (.bh dL 0 false)) n dL:=⟨by rw [nx];exact B.lt,by rw [dG,if_pos rfl]⟩
theorem bI.set {F:aQ→Prop} {h:af} {size:Nat} {es:List (List D)} {v:V} (H:bI F h size es v) {b:aQ} (ai:¬F b) (k:b3):bI F (h.set b k) size es v:=
 H.mod ((Mod.refl (fun x=>x=b) h).set (fun _=>rfl) k) fun x q _=>⟨fun e=>ai (e ▸ q),q⟩
theorem bZ.zd {F:aQ→Prop} {h:af} {ds:List D} {ad:List V} (H:bZ F h ds ad):bZ (Old h) h ds ad:=H.b0.hQ fun _ q=>q.2
theorem bI.zd {F:aQ→Prop} {h:af} {size:Nat} {es:List (List D)} {v:V} (H:bI F h size es v):bI (Old h) h size es v:=by
 obtain ⟨us,a,b,c,d⟩:=H.ex
 exact ⟨H.room,H.le,⟨us,a,b,c,fun i x u al aq=>(d i x u al aq).zd⟩,fun b q=>a.b0 q⟩
theorem Cz {h:af} {n:Nat} (aX:h.next≤n):¬Old h (aC n):=fun q=>by unfold Old at q;rw [c6] at q;omega
theorem ik {i n:Nat} (h:i<n) (aX:n≤4611686018427387904):IntKind.i64.wrap ((i:Int)+1)=((i+1:Nat):Int):=by rw [wrap_i64 (by omega) (by omega)];rfl
def encI (i:Int):List D:=[.i .i64 i]
theorem bI.H2 {F:aQ→Prop} {h:af} {l:List Int} {v:V} (H:bI F h 1 (l.map encI) v) {k:IntKind} {i:Nat} (av:i<l.length):
 ∃b off,hY 1 v (.int k i)=some (.ptr b (off+i * 1))∧∀ab,Ext h ab→hj (ab.get b) (off+i * 1)=some (.int .i64 l[i]):=by
 obtain ⟨b,off,u,aB,aO,cc,_,fy⟩:=H.at (k:=k) (i:=i) (by rw [List.length_map];exact av)
 rw [List.getElem_map,encI] at aO
 obtain ⟨us,rfl,ir⟩:=bZ.int aO
 obtain rfl:=ir.no
 exact ⟨b,off,aB,fun ab e=>by simpa using fy ab e 0 (by omega)⟩
def jy (n:Nat) (b:aQ):aQ:=aC (n+cd b)
mutual
def V.cQ (n:Nat):V→V
 | .ptr b o=>.ptr (jy n b) o
 | .slice b o l c=>.slice (jy n b) o l c
 | .dK b o l c=>.dK (jy n b) o l c
 | .fu b o l c=>.fu (jy n b) o l c
 | .map b=>.map (jy n b)
 | .func f cs=>.func f (jx n cs)
 | .k6 f cs=>.k6 f (jx n cs)
 | .iface t v=>.iface t (v.cQ n)
 | .agg cs=>.agg (jx n cs)
 | .tuple cs=>.tuple (jx n cs)
 | .bad=>.bad | .bool b=>.bool b | .int k i=>.int k i | .str s=>.str s | .ks=>.ks | .bW=>.bW | .jY=>.jY | .js=>.js | .nilIface=>.nilIface
def jx (n:Nat):List V→List V
 | []=>[]
 | v::ad=>v.cQ n::jx n ad
end
theorem Rh (n:Nat):∀l:List V,jx n l=l.map (V.cQ n)
 | []=>by simp [jx]
 | v::l=>by rw [jx,Rh n l,List.map_cons]
def ca.cQ (n:Nat) (m:ca):ca:=⟨m.k.cQ n,m.v.cQ n,m.born⟩
noncomputable def b3.cQ (n:Nat):b3→b3
 | .cells m cs cp st=>.bh ((gH cs 0 m).map (V.cQ n)) cp st
 | .iter s pos=>.iter s pos
 | .mp es clock=>.mp (es.map (ca.cQ n)) clock
 | .gW es=>.gW (es.map (ca.cQ n))
 | _=>.dead
noncomputable def af.oT (h aw:af):Nat→af
 | 0=>h
 | k+1=>(h.oT aw k).new ((aw.get (aC k)).cQ h.next)
theorem uV (h aw:af):∀k,(h.oT aw k).next=h.next+k
 | 0=>rfl
 | k+1=>by rw [af.oT,gx,uV h aw k];omega
theorem KN (h aw:af):∀k,Ext h (h.oT aw k)
 | 0=>Ext.refl h
 | k+1=>(KN h aw k).new _
theorem Em (h aw:af):∀(k i:Nat),i<k→(h.oT aw k).get (aC (h.next+i))=(aw.get (aC i)).cQ h.next
 | 0,i,av=>absurd av (by omega)
 | k+1,i,av=>by
   rw [af.oT,ht,uV]
   by_cases e:i=k
   · subst e;rw [if_pos rfl]
   · rw [if_neg (fun q=>e (by have:=g' q;omega)),Em h aw k i (by omega)]
theorem KO (h aw:af) (b:aQ):∀(k:Nat),(cd b<h.next∨h.next+k≤cd b)→(h.oT aw k).get b=h.get b
 | 0,_=>rfl
 | k+1,ai=>by
   rw [af.oT,ht,uV,if_neg (fun q=>by subst q;rw [c6] at ai;omega)]
   exact KO h aw b k (by omega)
noncomputable def af.app (h aw:af):af:=h.oT aw aw.next
noncomputable def mU (h aw:af) (E bV:Env):Env:=fun b=>if h.next≤cd b∧cd b<h.next+aw.next then bV (aC (cd b-h.next)) else E b
section
variable {az:Fr} {E bV:Env} {h aw:af} {w bQ:World}
theorem El (s:a8 az E h w):E.le (mU h aw E bV):=fun b p q=>by
 unfold mU
 rw [if_neg]
 · exact q
 · rintro ⟨aa,_⟩
   have:=s.fresh (cd b) aa
   rw [t'] at this
   rw [this] at q;cases q
theorem pT (s2:a8 ⟨w,fun _=>none⟩ bV aw bQ) {b:aQ} {p:hS} (q:bV b=some p):mU h aw E bV (jy h.next b)=some p:=by
 unfold mU jy
 have aN:cd b<aw.next:=by
  rcases Nat.lt_or_ge (cd b) aw.next with aq | aq
  · exact aq
  · have:=s2.fresh _ aq
    rw [t',q] at this;cases this
 rw [c6,if_pos ⟨by omega,by omega⟩,show h.next+cd b-h.next=cd b from by omega,t']
 exact q
mutual
theorem qP (s2:a8 ⟨w,fun _=>none⟩ bV aw bQ):∀(v:V) (x:Value),Rel bV v x→Rel (mU h aw E bV) (v.cQ h.next) x
 | .bad,x,q=>by simp only [V.cQ,Rel]
 | .bool _,x,q=>by simpa only [V.cQ,Rel] using q
 | .int _ _,x,q=>by simpa only [V.cQ,Rel] using q
 | .str _,x,q=>by simpa only [V.cQ,Rel] using q
 | .ks,x,q=>by simpa only [V.cQ,Rel] using q
 | .bW,x,q=>by simpa only [V.cQ,Rel] using q
 | .jY,x,q=>by simpa only [V.cQ,Rel] using q
 | .js,x,q=>by simpa only [V.cQ,Rel] using q
 | .nilIface,x,q=>by simpa only [V.cQ,Rel] using q
 | .ptr b o,x,q=>by
   simp only [V.cQ,Rel] at q ⊢
   obtain ⟨p,al,aq⟩:=q
   exact ⟨p,pT s2 al,aq⟩
 | .slice b o l c,x,q=>by
   simp only [V.cQ,Rel] at q ⊢
   obtain ⟨p,al,aq⟩:=q
   exact ⟨p,pT s2 al,aq⟩
 | .dK b o l c,x,q=>by
   simp only [V.cQ,Rel] at q ⊢
   obtain ⟨p,al,aq⟩:=q
   exact ⟨p,pT s2 al,aq⟩
 | .fu b o l c,x,q=>by simpa only [V.cQ,Rel] using q
 | .map b,x,q=>by
   simp only [V.cQ,Rel] at q ⊢
   obtain ⟨p,al,aq⟩:=q
   exact ⟨p,pT s2 al,aq⟩
 | .func f cs,x,q=>by
   simp only [V.cQ,Rel] at q ⊢
   rcases q with ⟨al,a,aq,aK⟩ | ⟨al,b,p,rfl,aK,bG⟩
   · exact .inl ⟨al,a,aq,zv s2 cs _ aK⟩
   · exact .inr ⟨al,jy h.next b,p,by simp only [jx,V.cQ],pT s2 aK,bG⟩
 | .k6 f cs,x,q=>by
   simp only [V.cQ,Rel] at q ⊢
   obtain ⟨al,a,aq,aK⟩:=q
   exact ⟨al,a,aq,zv s2 cs _ aK⟩
 | .iface t v,x,q=>by
   simp only [V.cQ,Rel] at q ⊢
   obtain ⟨y,al,aq⟩:=q
   exact ⟨y,al,qP s2 v y aq⟩
 | .agg cs,x,q=>by
   simp only [V.cQ,Rel] at q ⊢
   obtain ⟨a,al,aq⟩:=q
   exact ⟨a,al,zv s2 cs _ aq⟩
 | .tuple cs,x,q=>by
   simp only [V.cQ,Rel] at q ⊢
   obtain ⟨a,al,aq⟩:=q
   exact ⟨a,al,zv s2 cs _ aq⟩
theorem zv (s2:a8 ⟨w,fun _=>none⟩ bV aw bQ):∀(v:List V) (x:List Value),a_ bV v x→a_ (mU h aw E bV) (jx h.next v) x
 | [],x,q=>by simpa only [jx,a_] using q
 | v::ad,x,q=>by
   simp only [jx,a_] at q ⊢
   obtain ⟨y,cm,al,aq,aK⟩:=q
   exact ⟨y,cm,al,qP s2 v y aq,zv s2 ad cm aK⟩
end
theorem Pw (s2:a8 ⟨w,fun _=>none⟩ bV aw bQ):∀(v:List ca) (x:List MapEntry),dF bV v x→dF (mU h aw E bV) (v.map (ca.cQ h.next)) x
 | [],x,q=>by simpa only [List.map_nil,dF] using q
 | v::ad,x,q=>by
   simp only [List.map_cons,dF,ca.cQ] at q ⊢
   obtain ⟨y,cm,al,aq,aK,bG,di⟩:=q
   exact ⟨y,cm,al,qP s2 _ _ aq,qP s2 _ _ aK,bG,Pw s2 ad cm di⟩
theorem RW (s2:a8 ⟨w,fun _=>none⟩ bV aw bQ):∀(v:List ca) (x:List MapEntry),jI bV v x→jI (mU h aw E bV) (v.map (ca.cQ h.next)) x
 | [],x,q=>by simpa only [List.map_nil,jI] using q
 | v::ad,x,q=>by
   simp only [List.map_cons,jI,ca.cQ] at q ⊢
   obtain ⟨y,cm,al,aq,aK,di⟩:=q
   exact ⟨y,cm,al,qP s2 _ _ aq,qP s2 _ _ aK,RW s2 ad cm di⟩
theorem Bs (cs:T V):∀(n off i:Nat),i<n→(gH cs off n)[i]? =some (T.get .bad (aC (off+i)) cs)
 | 0,_,i,av=>absurd av (by omega)
 | n+1,off,0,_=>by simp [gH]
 | n+1,off,i+1,av=>by
   rw [gH,List.getElem?_cons_succ,Bs cs n (off+1) i (by omega)]
   congr 3
   omega
theorem Ux (hw:az.w.heap.size≤w.heap.size) (s2:a8 ⟨w,fun _=>none⟩ bV aw bQ) {b:aQ} {k:b3} (H:fH w.heap.size bV bQ b k):fH az.w.heap.size (mU h aw E bV) bQ (jy h.next b) (k.cQ h.next):=by
 cases k with
 | cells n cs cp st=>
   obtain ⟨aX,p,c,el,bS,aa,ae,aI,bu,cf,fp,hF⟩:=H
   have ak:((gH cs 0 n).map (V.cQ h.next)).length=n:=by rw [List.length_map,s7]
   refine ⟨by rw [ak];exact aX,p,c,el,bS,pT s2 aa,Nat.le_trans hw ae,aI,bu,cf,fp,by rw [ak];exact hF.1,fun i y av a1=>?_⟩
   rw [ak] at av
   have:=xY ((gH cs 0 n).map (V.cQ h.next)) 0 i .e
   rw [Nat.zero_add,if_pos (by rw [ak];exact av),List.getElem?_map,Bs cs n 0 i av] at this
   rw [this]
   simp only [Option.map_some,Option.getD_some,Nat.zero_add]
   exact qP s2 _ _ (hF.2 i y av a1)
 | iter st pos=>
   obtain ⟨p,aa,ae,aI⟩:=H
   exact ⟨p,pT s2 aa,Nat.le_trans hw ae,aI⟩
 | mp es clock=>
   obtain ⟨p,a,aa,ae,aI,bu⟩:=H
   exact ⟨p,a,pT s2 aa,Nat.le_trans hw ae,aI,Pw s2 _ _ bu⟩
 | gW es=>
   obtain ⟨p,a,c,l,aa,ae,aI,bu,cf⟩:=H
   exact ⟨p,a,c,l,pT s2 aa,Nat.le_trans hw ae,aI,RW s2 _ _ bu,cf⟩
 | _=>trivial
theorem CN {k:b3} {n:Nat} (H:(k.cQ n).own=true):k.own=true:=by
 cases k<;>simp_all [b3.cQ,b3.own]
theorem P7 {B:Nat} {b:aQ} {k:b3} {p:hS} (H:fH B E w b k) (aU:k.own=true) (q:E b=some p):B≤p.a7∧p.a7<w.heap.size:=by
 have lt:∀{o:Obj},w.heap[p.a7]? =some o→p.a7<w.heap.size:=fun {o} q=>by
  rcases Nat.lt_or_ge p.a7 w.heap.size with aq | aq
  · exact aq
  · rw [Array.getElem?_eq_none aq] at q;cases q
 cases k with
 | cells n cs cp st=>
   obtain ⟨_,p',c,el,bS,aa,ae,aI,_⟩:=H
   rw [q] at aa;cases aa
   exact ⟨ae,lt aI⟩
 | iter st pos=>
   obtain ⟨p',aa,ae,_,aI⟩:=H
   rw [q] at aa;cases aa
   exact ⟨ae,lt aI⟩
 | mp es clock=>
   obtain ⟨p',a,aa,ae,aI,_⟩:=H
   rw [q] at aa;cases aa
   exact ⟨ae,lt aI⟩
 | gW es=>
   obtain ⟨p',a,c,l,aa,ae,aI,_⟩:=H
   rw [q] at aa;cases aa
   exact ⟨ae,lt aI⟩
 | dk l=>
   obtain ⟨p',o,aa,ae,aI,_⟩:=H
   rw [q] at aa;cases aa
   exact ⟨ae,lt aI⟩
 | fb=>
   obtain ⟨p',aa,ae,aI⟩:=H
   rw [q] at aa;cases aa
   exact ⟨ae,lt aI⟩
 | hZ src since seen last=>
   obtain ⟨p',m,a,aa,ae,_,aI,_⟩:=H
   rw [q] at aa;cases aa
   exact ⟨ae,lt aI⟩
 | dead=>cases aU
 | view n cs=>cases aU
theorem Rl (s:a8 az E h w) (s2:a8 ⟨w,fun _=>none⟩ bV aw bQ):a8 az (mU h aw E bV) (h.app aw) bQ:=by
 have Ra:=s.below s2.frame
 have hw:az.w.heap.size≤w.heap.size:=s.frame.size
 have cs:∀b,(h.next≤cd b∧cd b<h.next+aw.next∧∃i,i<aw.next∧b=jy h.next (aC i)∧(h.app aw).get b=(aw.get (aC i)).cQ h.next∧mU h aw E bV b=bV (aC i))∨
  ((cd b<h.next∨h.next+aw.next≤cd b)∧(h.app aw).get b=h.get b∧mU h aw E bV b=E b):=fun b=>by
  by_cases q:h.next≤cd b∧cd b<h.next+aw.next
  · refine .inl ⟨q.1,q.2,cd b-h.next,by omega,?_,?_,if_pos q⟩
    · unfold jy
      rw [c6,show h.next + (cd b-h.next)=cd b from by omega,t']
    · have:=Em h aw aw.next (cd b-h.next) (by omega)
      rw [show h.next + (cd b-h.next)=cd b from by omega,t'] at this
      exact this
  · exact .inr ⟨by omega,KO h aw b _ (by omega),if_neg q⟩
 have PT:∀b p,(h.get b).own=true→E b=some p→p.a7<w.heap.size:=fun b p aU q=>by
  have ai:fH az.w.heap.size E w b (h.get b):=s.at q
  exact (P7 ai aU q).2
 have PA:∀i p,(aw.get (aC i)).own=true→bV (aC i)=some p→w.heap.size≤p.a7:=fun i p aU q=>(P7 (s2.a7 _ rfl) aU q).1
 refine ⟨fun b ai=>?_,fun b k aD=>?_,fun b bJ p p' c_ cW aB aO aj=>?_,fun i av=>?_,Ra.frame,s.laid,fun b p n c st aH he=>?_⟩
 · rcases cs b with ⟨_,_,i,av,rfl,aB,aO⟩ | ⟨_,aB,aO⟩
   · rw [aB]
     exact Ux hw s2 (s2.a7 _ rfl)
   · rw [aB]
     exact (Ra.a7 b ai).mono (El s)
 · obtain ⟨al,aq,i,av,rfl⟩:=s.nz b k aD
   rcases cs (aC i) with ⟨bz,_⟩ | ⟨_,aB,aO⟩
   · rw [c6] at bz;omega
   · refine ⟨aB.trans al,aO.trans aq,i,?_,rfl⟩
     show i < (h.oT aw aw.next).next
     rw [uV];omega
 · rcases cs b with ⟨_,_,i,av,rfl,g1,g2⟩ | ⟨_,g1,g2⟩<;>rcases cs bJ with ⟨_,_,j,bH,rfl,g3,g4⟩ | ⟨_,g3,g4⟩
   · rw [g1] at c_;rw [g3] at cW;rw [g2] at aB;rw [g4] at aO
     rw [s2.inj _ _ _ _ (CN c_) (CN cW) aB aO aj]
   · rw [g1] at c_;rw [g3] at cW;rw [g2] at aB;rw [g4] at aO
     have a:=PA _ _ (CN c_) aB
     have b:=PT _ _ cW aO
     omega
   · rw [g1] at c_;rw [g3] at cW;rw [g2] at aB;rw [g4] at aO
     have a:=PA _ _ (CN cW) aO
     have b:=PT _ _ c_ aB
     omega
   · rw [g1] at c_;rw [g3] at cW;rw [g2] at aB;rw [g4] at aO
     exact s.inj _ _ _ _ c_ cW aB aO aj
 · have aX:(h.app aw).next=h.next+aw.next:=uV h aw aw.next
   rw [aX] at av
   rcases cs (aC i) with ⟨bz,bN,_⟩ | ⟨_,aB,aO⟩
   · rw [c6] at bN;omega
   · rw [aO];exact s.fresh i (by omega)
 · rcases cs b with ⟨_,_,i,av,rfl,g1,g2⟩ | ⟨_,g1,g2⟩
   · rw [g2] at he
     cases aD:aw.get (aC i) with
     | cells hz e3 akd ali=>
       rw [g1,aD] at aH
       simp only [b3.cQ,b3.bh,b3.cells.injEq] at aH
       obtain ⟨_,_,q,_⟩:=aH
       subst q
       exact s2.base _ _ _ _ _ aD he
     | _=>rw [g1,aD] at aH;simp [b3.cQ] at aH
   · rw [g1] at aH;rw [g2] at he
     exact s.base _ _ _ _ _ aH he
end
theorem Yq {C:Ctx} (c1:C.P.follows .mixedOrders=true) (bD:ec C.P) (fT:nJ C) {n:Nat} {f:FuncId} {aw:af} {v:V} (aA:Nat.beq f c7=false) (au:C.ext f=none) (hg:∃fn,C.P.funcs[f]? =some fn∧fn.body.isSome=true)
 (he:p3 C n f [] af.empty=.val v aw) (h:af):eM C.P f [] h (v.cQ h.next) (h.app aw):=by
 refine ⟨fun e=>by subst e;simp at aA,.inl ⟨hg,fun az E w xs ak s=>?_⟩⟩
 simp only [a_] at ak
 subst ak
 obtain ⟨_,iw⟩:=FF c1 bD fT aA au he (az:=⟨w,fun _=>none⟩) (E:=fun _=>none) (w:=w) (xs:=[]) rfl (Dh w (Lay.e8 s.laid s.frame))
 refine iw.mono fun e ar aF=>?_
 obtain ⟨ay,x,rfl,_,aq,aK⟩:=aF
 exact ⟨_,x,rfl,El s,qP aK _ _ aq,Rl s aK⟩
theorem T2 (h aw:af):Ext h (h.app aw):=KN h aw _
theorem KQ (h aw:af) {i:Nat} (av:i<aw.next):(h.app aw).get (aC (h.next+i))=(aw.get (aC i)).cQ h.next:=Em h aw _ i av
theorem KR (h aw:af):(h.app aw).next=h.next+aw.next:=uV h aw _
end Go.Proofs.YtkehcalakofigaaGreatDoor.aS
namespace Go.Proofs.YtkehcalakofigaaGreatDoor.aS
variable [Lay]
open Go Go.RowKit
def H8:IntKind→IntKind→Bool
 | .i8,.i8 | .i16,.i16 | .i32,.i32 | .i64,.i64 | .u8,.u8 | .u16,.u16 | .u32,.u32 | .u64,.u64=>true
 | _,_=>false
theorem OH {a b:IntKind} (h:H8 a b=true):a=b:=by cases a<;>cases b<;>first | rfl | cases h
def rN:Int→Int→Bool
 | .ofNat a,.ofNat b=>Nat.beq a b
 | .negSucc a,.negSucc b=>Nat.beq a b
 | _,_=>false
theorem B1 {a b:Int} (h:rN a b=true):a=b:=by
 cases a<;>cases b<;>simp only [rN] at h<;>first | (rw [Nat.eq_of_beq_eq_true h]) | (cases h)
def K2:Bool→Bool→Bool
 | true,true | false,false=>true
 | _,_=>false
theorem Uk {a b:Bool} (h:K2 a b=true):a=b:=by cases a<;>cases b<;>first | rfl | cases h
def Dg:List UInt8→List UInt8→Bool
 | [],[]=>true
 | a::uZ,b::ez=>Nat.beq a.toNat b.toNat&&Dg uZ ez
 | _,_=>false
theorem Q':∀{a b:List UInt8},Dg a b=true→a=b
 | [],[],_=>rfl
 | [],_::_,h=>by cases h
 | _::_,[],h=>by cases h
 | a::uZ,b::ez,h=>by
   simp only [Dg,Bool.and_eq_true] at h
   rw [Q' h.2,UInt8.toNat_inj.1 (Nat.eq_of_beq_eq_true h.1)]
def CD (kL:List D→List V→Bool) (size:Nat):List (List D)→List V→Bool
 | [],m_=>(match m_ with | []=>true | _=>false)
 | e::es,m_=>Nat.beq (m_.take size).length size&&kL e (m_.take size)&&CD kL size es (m_.drop size)
noncomputable def II (aw:af) (kL:List D→List V→Bool) (size:Nat) (es:List (List D)):V→Bool
 | .bW=>(match es with | []=>true | _=>false)
 | .slice b off len cap=>Nat.beq len es.length&&Nat.ble len cap&&Nat.ble len top&&Nat.blt (cd b) aw.next&&(match aw.get b with
   | .cells n cs _ _=>Nat.ble (off+len * size) n&&CD kL size es (gH cs off (len * size))
   | _=>false)
 | _=>false
noncomputable def zb (aw:af):Nat→List D→List V→Bool
 | 0,_,_=>false
 | f+1,ds,ad=>match ds with
   | []=>(match ad with | []=>true | _=>false)
   | d::ds=>match ad with
     | []=>false
     | v::ad=>(match d with
       | .i k n=>(match v with | .int bn hz=>H8 k bn&&rN n hz | _=>false)
       | .b x=>(match v with | .bool y=>K2 x y | _=>false)
       | .s x=>(match v with | .str y=>Dg x y&&Nat.ble x.length top | _=>false)
       | .l size es=>II aw (zb aw f) size es v)&&zb aw f ds ad
section
variable {h aw:af}
def r3 (h aw:af) (b:aQ):Prop:=h.next≤cd b∧cd b<h.next+aw.next
theorem PQ {kL:List D→List V→Bool} {size:Nat}:∀{es:List (List D)} {m_:List V},CD kL size es m_=true→
 ∃us:List (List V),m_=us.flatten∧us.length=es.length∧(∀u ∈ us,u.length=size)∧∀(i:Nat) (e:List D) (u:List V),es[i]? =some e→us[i]? =some u→kL e u=true
 | [],m_,H=>by
   cases m_ with
   | nil=>exact ⟨[],rfl,rfl,fun u q=>(by cases q),fun i e u q=>(by simp at q)⟩
   | cons _ _=>cases H
 | e::es,m_,H=>by
   simp only [CD,Bool.and_eq_true] at H
   obtain ⟨us,al,aq,aK,bG⟩:=PQ H.2
   refine ⟨m_.take size::us,by rw [List.flatten_cons,←al,List.take_append_drop],by simp [aq],fun u hu=>?_,fun i x u aB aO=>?_⟩
   · rcases List.mem_cons.1 hu with rfl | hu
     · exact Nat.eq_of_beq_eq_true H.1.1
     · exact aK u hu
   · cases i with
     | zero=>
       simp only [List.getElem?_cons_zero,Option.some.injEq] at aB aO
       subst aB aO
       exact H.1.2
     | succ i=>exact bG i x u (by simpa using aB) (by simpa using aO)
theorem Z4 (cs:T V) (n off m:Nat) (hm:off+m≤n):((gH cs 0 n).drop off).take m=gH cs off m:=by
 apply List.ext_getElem?
 intro i
 by_cases av:i<m
 · rw [List.getElem?_take_of_lt av,List.getElem?_drop,Bs cs n 0 _ (by omega),Bs cs m off i av,Nat.zero_add]
 · rw [List.getElem?_eq_none (by rw [List.length_take,List.length_drop,s7];omega),List.getElem?_eq_none (by rw [s7];omega)]
theorem agq {kL:List D→List V→Bool} (aD:∀ds ad,kL ds ad=true→bZ (r3 h aw) (h.app aw) ds (jx h.next ad)) {size:Nat} {es:List (List D)} {v:V} (H:II aw kL size es v=true):
 bI (r3 h aw) (h.app aw) size es (v.cQ h.next):=by
 cases v<;>simp only [II] at H<;>try (cases H;done)
 case bW=>
  cases es with
  | nil=>exact bI.nil _ _ _
  | cons _ _=>cases H
 case slice b off len cap=>
  simp only [Bool.and_eq_true] at H
  obtain ⟨⟨⟨⟨aa,ae⟩,aI⟩,bu⟩,cf⟩:=H
  have aa:=Nat.eq_of_beq_eq_true aa
  have ae:=Nat.le_of_ble_eq_true ae
  have aI:=Nat.le_of_ble_eq_true aI
  have bu:cd b<aw.next:=Nat.le_of_ble_eq_true bu
  cases aH:aw.get b<;>rw [aH] at cf<;>simp only at cf<;>try (cases cf;done)
  rename_i n cs cp st
  simp only [Bool.and_eq_true] at cf
  have fp:=Nat.le_of_ble_eq_true cf.1
  obtain ⟨us,al,aq,aK,bG⟩:=PQ cf.2
  subst aa
  have qj:(h.app aw).get (jy h.next b)=.bh ((gH cs 0 n).map (V.cQ h.next)) cp st:=by
   have:=KQ h aw bu
   rw [t',aH] at this
   exact this
  have hf:(us.map (List.map (V.cQ h.next))).flatten=us.flatten.map (V.cQ h.next):=by rw [List.map_flatten]
  have hlen:us.flatten.length=es.length * size:=by rw [←al,s7]
  refine ⟨fun bJ o l c e=>(by cases e;exact ae),aI,⟨us.map (List.map (V.cQ h.next)),⟨by rw [hf,List.length_map,hlen],rfl,?_,_,.inr ⟨cp,st,qj⟩,?_,?_⟩,by rw [List.length_map,aq],fun u hu=>?_,fun i e u aB aO=>?_⟩,fun bJ q=>?_⟩
  · unfold Old jy
    rw [c6,KR];omega
  · rw [hf,List.length_map,List.length_map,s7,hlen];exact fp
  · rw [hf,List.length_map,hlen,←List.map_drop,←List.map_take,Z4 cs n off _ fp,al]
  · obtain ⟨fZ,gj,rfl⟩:=List.mem_map.1 hu
    rw [List.length_map];exact aK fZ gj
  · rw [List.getElem?_map] at aO
    cases aF:us[i]? with
    | none=>rw [aF] at aO;cases aO
    | some fZ=>
      rw [aF] at aO
      simp only [Option.map_some,Option.some.injEq] at aO
      subst aO
      rw [←Rh]
      exact aD _ _ (bG i e fZ aB aF)
  · simp only [V.cQ,V.a7] at q
    subst q
    unfold r3 jy
    rw [c6]
    exact ⟨by omega,by omega⟩
theorem IG:∀{f:Nat} {ds:List D} {ad:List V},zb aw f ds ad=true→bZ (r3 h aw) (h.app aw) ds (jx h.next ad)
 | 0,_,_,H=>by cases H
 | f+1,ds,ad,H=>by
   cases ds with
   | nil=>
     cases ad with
     | nil=>exact .nil
     | cons _ _=>cases H
   | cons d ds=>
     cases ad with
     | nil=>cases H
     | cons v ad=>
       simp only [zb,Bool.and_eq_true] at H
       have t:=IG (f:=f) H.2
       have H1:=H.1
       rw [jx]
       cases d with
       | i k n=>
         cases v<;>simp only at H1<;>try (cases H1;done)
         simp only [Bool.and_eq_true] at H1
         rw [OH H1.1,B1 H1.2]
         simp only [V.cQ]
         exact .i t
       | b x=>
         cases v<;>simp only at H1<;>try (cases H1;done)
         rw [Uk H1]
         simp only [V.cQ]
         exact .b t
       | s x=>
         cases v<;>simp only at H1<;>try (cases H1;done)
         simp only [Bool.and_eq_true] at H1
         rw [←Q' H1.1]
         simp only [V.cQ]
         exact .s (Nat.le_of_ble_eq_true H1.2) t
       | l size es=>exact (agq (fun ds ad q=>IG (f:=f) q) H1).cons t
end
end Go.Proofs.YtkehcalakofigaaGreatDoor.aS
namespace Go.Proofs.YtkehcalakofigaaGreatDoor.aS
variable [Lay]
open Go Go.RowKit
def lX (k:Int):List (Int × List D)→Option (List D)
 | []=>none
 | (n,d)::l=>if k=n then some d else lX k l
inductive kB (F:aQ→Prop) (h:af):List (Int × List D)→List ca→Prop
 | nil:kB F h [] []
 | cons {n:Int} {ds:List D} {y:V} {born:Nat} {bL:List (Int × List D)} {es:List ca} (aY:bZ F h ds y.cells) (t:kB F h bL es):kB F h ((n,ds)::bL) (⟨.int .i64 n,y,born⟩::es)
structure mQ (F:aQ→Prop) (h:af) (bL:List (Int × List D)) (v:V):Prop where
 ex:∃b es,v=.map b∧Old h b∧((∃clock,h.get b=.mp es clock)∨h.get b=.gW es∧(bL.map Prod.fst).Nodup)∧kB F h bL es∧F b
section
variable {F:aQ→Prop} {h ab:af} {bL:List (Int × List D)} {es:List ca} {v:V}
theorem kB.ext (H:kB F h bL es) (e:Ext h ab):kB F ab bL es:=by
 induction H with
 | nil=>exact .nil
 | cons aY t bg=>exact .cons (aY.ext e) bg
theorem mQ.ext (H:mQ F h bL v) (e:Ext h ab):mQ F ab bL v:=by
 obtain ⟨b,es,al,aq,aK,bG,di⟩:=H.ex
 exact ⟨b,es,al,e.b0 aq,by rw [e.get b aq];exact aK,bG.ext e,di⟩
theorem Q5 (k n:Int):kO.run (.int .i64 k) (.int .i64 n)=some (decide (k=n)):=by
 simp only [kO,V.dV,oZ,cond_true,F3]
theorem kB.jM (H:kB F h bL es) (k:Int):(lX k bL=none∧jM kO (.int .i64 k) es=some none)∨∃ds y,lX k bL=some ds∧bZ F h ds y.cells∧Go.Proofs.YtkehcalakofigaaGreatDoor.aS.jM kO (.int .i64 k) es=some (some y):=by
 induction H with
 | nil=>exact .inl ⟨rfl,rfl⟩
 | @cons n ds y born bL es aY t bg=>
   simp only [lX,Go.Proofs.YtkehcalakofigaaGreatDoor.aS.jM,Q5]
   by_cases q:k=n
   · subst q
     simp only [if_true,decide_true,cond_true]
     exact .inr ⟨ds,y,rfl,aY,rfl⟩
   · simp only [q,if_false,decide_false,cond_false]
     exact bg
theorem Pn {k:Int} {ds:List D}:∀{bL:List (Int × List D)},lX k bL=some ds→k ∈ bL.map Prod.fst
 | [],h=>by cases h
 | (n,d)::l,h=>by
   simp only [lX] at h
   by_cases q:k=n
   · subst q;simp
   · rw [if_neg q] at h
     simp only [List.map_cons,List.mem_cons]
     exact .inr (Pn h)
theorem kB.lD (H:kB F h bL es) (aX:(bL.map Prod.fst).Nodup) (k:Int):(lX k bL=none∧lD kO (.int .i64 k) es=some none)∨∃ds y,lX k bL=some ds∧bZ F h ds y.cells∧Go.Proofs.YtkehcalakofigaaGreatDoor.aS.lD kO (.int .i64 k) es=some (some y):=by
 induction H with
 | nil=>exact .inl ⟨rfl,rfl⟩
 | @cons n ds y born bL es aY t bg=>
   simp only [List.map_cons,List.nodup_cons] at aX
   have bg:=bg aX.2
   simp only [lX,Go.Proofs.YtkehcalakofigaaGreatDoor.aS.lD,Q5]
   by_cases q:k=n
   · subst q
     rcases bg with ⟨_,e⟩ | ⟨_,_,e,_⟩
     · simp only [e,if_true,decide_true,cond_true]
       exact .inr ⟨ds,y,rfl,aY,rfl⟩
     · exact absurd (Pn e) aX.1
   · rcases bg with ⟨aB,e⟩ | ⟨mc,q8,aB,aO,e⟩
     · simp only [e,q,if_false,decide_false,cond_false]
       exact .inl ⟨aB,trivial⟩
     · simp only [e,q,if_false,decide_false,cond_false]
       exact .inr ⟨mc,q8,aB,aO,rfl⟩
theorem mQ.look (H:mQ F h bL v) (k:Int) (z:V) (ok:Bool):(lX k bL=none∧iR kO z ok h v (.int .i64 k)=some (bif ok then .tuple [z,.bool false] else z))∨
 ∃ds y,lX k bL=some ds∧bZ F h ds y.cells∧iR kO z ok h v (.int .i64 k)=some (bif ok then .tuple [y,.bool true] else y):=by
 obtain ⟨b,es,rfl,_,aK,bG,_⟩:=H.ex
 rcases aK with ⟨clock,aK⟩ | ⟨aK,aX⟩
 · rcases bG.jM k with ⟨aB,e⟩ | ⟨ds,y,aB,aO,e⟩
   · exact .inl ⟨aB,by simp only [iR,aK,ot,pr,b3.iU,e]⟩
   · exact .inr ⟨ds,y,aB,aO,by simp only [iR,aK,ot,pr,b3.iU,e]⟩
 · rcases bG.lD aX k with ⟨aB,e⟩ | ⟨ds,y,aB,aO,e⟩
   · exact .inl ⟨aB,by simp only [iR,aK,e]⟩
   · exact .inr ⟨ds,y,aB,aO,by simp only [iR,aK,e]⟩
end
noncomputable def zc (aw:af) (f:Nat):List (Int × List D)→List ca→Bool
 | [],es=>(match es with | []=>true | _=>false)
 | (n,ds)::bL,es=>(match es with
   | []=>false
   | m::es=>(match m.k with | .int k i=>H8 k .i64&&rN i n | _=>false)&&zb aw f ds m.v.cells&&zc aw f bL es)
def Cw:List Int→Bool
 | []=>true
 | n::l=>(l.all fun m=>!rN n m)&&Cw l
noncomputable def CE (aw:af) (f:Nat) (bL:List (Int × List D)):V→Bool
 | .map b=>Nat.blt (cd b) aw.next&&Cw (bL.map Prod.fst)&&(match aw.get b with
   | .mp es _=>zc aw f bL es
   | .gW es=>zc aw f bL es
   | _=>false)
 | _=>false
theorem acz:∀n:Int,rN n n=true
 | .ofNat a=>Nat.beq_refl a
 | .negSucc a=>Nat.beq_refl a
theorem PD:∀{l:List Int},Cw l=true→l.Nodup
 | [],_=>List.nodup_nil
 | n::l,h=>by
   simp only [Cw,Bool.and_eq_true] at h
   refine List.nodup_cons.2 ⟨fun q=>?_,PD h.2⟩
   have:=List.all_eq_true.1 h.1 n q
   rw [acz] at this
   cases this
theorem Yi (n:Nat) (v:V):(v.cQ n).cells=jx n v.cells:=by
 cases v<;>simp only [V.cQ,V.cells,jx]
section
variable {h aw:af}
theorem IH {f:Nat}:∀{bL:List (Int × List D)} {es:List ca},zc aw f bL es=true→kB (r3 h aw) (h.app aw) bL (es.map (ca.cQ h.next))
 | [],es,H=>by
   cases es with
   | nil=>exact .nil
   | cons _ _=>cases H
 | (n,ds)::bL,es,H=>by
   cases es with
   | nil=>cases H
   | cons m es=>
     simp only [zc,Bool.and_eq_true] at H
     obtain ⟨⟨aa,ae⟩,aI⟩:=H
     obtain ⟨mk,dz,born⟩:=m
     cases mk<;>simp only at aa<;>try (cases aa;done)
     simp only [Bool.and_eq_true] at aa
     rw [OH aa.1,B1 aa.2,List.map_cons]
     simp only [ca.cQ,V.cQ]
     exact .cons (by rw [Yi];exact IG ae) (IH aI)
theorem agp {f:Nat} {bL:List (Int × List D)} {v:V} (H:CE aw f bL v=true):mQ (r3 h aw) (h.app aw) bL (v.cQ h.next):=by
 cases v<;>simp only [CE] at H<;>try (cases H;done)
 rename_i b
 simp only [Bool.and_eq_true] at H
 obtain ⟨⟨aa,ae⟩,aI⟩:=H
 have aa:cd b<aw.next:=Nat.le_of_ble_eq_true aa
 have aH:=KQ h aw aa
 rw [t'] at aH
 have ai:r3 h aw (jy h.next b):=by unfold r3 jy;rw [c6];exact ⟨by omega,by omega⟩
 have aU:Old (h.app aw) (jy h.next b):=by unfold Old jy;rw [c6,KR];omega
 cases aD:aw.get b<;>rw [aD] at aI<;>simp only at aI<;>try (cases aI;done)
 · rw [aD] at aH
   exact ⟨_,_,rfl,aU,.inl ⟨_,aH⟩,IH aI,ai⟩
 · rw [aD] at aH
   exact ⟨_,_,rfl,aU,.inr ⟨aH,PD ae⟩,IH aI,ai⟩
end
end Go.Proofs.YtkehcalakofigaaGreatDoor.aS
namespace Go.Proofs.YtkehcalakofigaaGreatDoor.aS
variable [Lay]
open Go Go.RowKit
theorem kB.hQ {F dJ:aQ→Prop} {h:af} {bL:List (Int × List D)} {es:List ca} (H:kB F h bL es) (w:∀b,F b→dJ b):kB dJ h bL es:=by
 induction H with
 | nil=>exact .nil
 | cons aY t bg=>exact .cons (aY.hQ w) bg
theorem mQ.hQ {F dJ:aQ→Prop} {h:af} {bL:List (Int × List D)} {v:V} (H:mQ F h bL v) (w:∀b,F b→dJ b):mQ dJ h bL v:=by
 obtain ⟨b,es,al,aq,aK,bG,di⟩:=H.ex
 exact ⟨b,es,al,aq,aK,bG.hQ w,w b di⟩
noncomputable def CF (C:Ctx) (n:Nat) (f:FuncId) (kL:af→V→Bool):Bool:=match p3 C n f [] af.empty with
 | .val v aw=>kL aw v
 | _=>false
def jG (h:af) (b:aQ):Prop:=h.next≤cd b
section
variable {C:Ctx} (c1:C.P.follows .mixedOrders=true) (bD:ec C.P) (fT:nJ C) {n:Nat} {f:FuncId} (aA:Nat.beq f c7=false) (au:C.ext f=none) (hg:∃fn,C.P.funcs[f]? =some fn∧fn.body.isSome=true)
include c1 bD fT aA au hg
theorem Yp {kL:af→V→Bool} (H:CF C n f kL=true) (h:af):∃v aw,kL aw v=true∧eM C.P f [] h (v.cQ h.next) (h.app aw):=by
 unfold CF at H
 cases aw:p3 C n f [] af.empty with
 | fail=>rw [aw] at H;cases H
 | cw _ _=>rw [aw] at H;cases H
 | val v ba=>
   rw [aw] at H
   exact ⟨v,ba,H,Yq c1 bD fT aA au hg aw h⟩
theorem Yo {m:Nat} {bL:List (Int × List D)} (H:CF C n f (fun aw v=>CE aw m bL v)=true) (h:af):bB C.P f [] h fun x ab=>Ext h ab∧mQ (jG h) ab bL x:=by
 obtain ⟨v,aw,q,c⟩:=Yp c1 bD fT aA au hg H h
 exact ⟨_,_,c,T2 _ _,(agp q).hQ fun b q=>q.1⟩
end
end Go.Proofs.YtkehcalakofigaaGreatDoor.aS
