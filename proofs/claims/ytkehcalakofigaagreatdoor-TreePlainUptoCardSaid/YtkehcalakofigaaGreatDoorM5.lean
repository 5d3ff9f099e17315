/- The abstract machine and its walks (a verified interpreter of the model's code: plain definitions and lemmas, no condition). Printed by a program from longer texts: names made short. -/
import Derived.Test.YtkehcalakofigaaGreatDoorM4
import Derived.ChangeBears
import Derived.Carry
import Derived.OpenShut
import Derived.ChangeSame
import Derived.Test.YtkehcalakofigaaGreatDoorM3
import Derived.Handed
import Derived.HandedShaped
set_option linter.unusedSectionVars false
set_option linter.unusedSimpArgs false
set_option linter.unusedVariables false
namespace Go.Proofs.YtkehcalakofigaaGreatDoor.aS
variable [Lay]
open Go Go.RowKit
section
variable (P:Program)
def vM:List Field→Nat→Option Nat
 | [],o=>some o
 | f::bP,o=>if f.offset=o then vM bP (o+P.cellsOf f.type) else none
def tq:Bool:=(List.range P.types.size).all fun t=>match P.underlying t with
 | some (.struct bP)=>decide (vM P bP.toList 0=some (P.cellsOf t))
 | _=>true
def df (h:af):Nat→Nat→TypeId→List V→Prop
 | 0,_,_,_=>False
 | n+1,m,t,ad=>match P.underlying t with
   | some .bool=>∃b,ad=[.bool b]
   | some (.int k)=>∃i,ad=[.int k i]∧(Lit.int k i).wf=true
   | some .string=>∃s:List UInt8,ad=[.str s]∧s.length+1≤m
   | some (.slice e)=>1≤m∧(ad=[.b4]∨(∃b i j k,ad=[.fO b i j k])∨P.cellsOf e=0∨
      ∃b len cap,ad=[.slice b 0 len cap]∧0<len∧len≤cap∧Old h b∧∃us,Rd h b us∧us.length=len * P.cellsOf e∧∃ms:List Nat,ms.length=len∧ms.sum+1≤m∧
       ∀(i k:Nat),ms[i]? =some k→1≤k∧df h n k e ((us.drop (i * P.cellsOf e)).take (P.cellsOf e)))
   | some (.struct bP)=>ad.length=P.cellsOf t∧∃ms:List Nat,ms.length=bP.toList.length∧ms.sum+1≤m∧∀(i:Nat) (f:Field) (k:Nat),bP.toList[i]? =some f→ms[i]? =some k→1≤k∧df h n k f.type ((ad.drop f.offset).take (P.cellsOf f.type))
   | some (.pointer e)=>1≤m∧(ad=[.jZ]∨P.cellsOf e=0∨∃b,ad=[.ptr b 0]∧Old h b∧∃us,Rd h b us∧us.length=P.cellsOf e∧∃k,k+1≤m∧df h n k e us)
   | some (.map _ _)=>ad=[.jr]∨ad=[.bad]
   | some (.interface _)=>ad=[.nilIface]∨ad=[.bad]
   | _=>True
end
theorem df.ext {P:Program} {h ab:af} (e:Ext h ab):∀(n m:Nat) (t:TypeId) (ad:List V),df P h n m t ad→df P ab n m t ad
 | 0,_,_,_,H=>H
 | n+1,m,t,ad,H=>by
   unfold df at H ⊢
   split at H<;>try exact H
   · refine ⟨H.1,?_⟩
     rcases H.2 with H | H | H | ⟨b,len,cap,aa,ae,aF,cd,us,cb,cB,ms,fM,fR,jV⟩
     · exact .inl H
     · exact .inr (.inl H)
     · exact .inr (.inr (.inl H))
     · exact .inr (.inr (.inr ⟨b,len,cap,aa,ae,aF,e.bR cd,us,e.rd cd cb,cB,ms,fM,fR,fun i k aA=>⟨(jV i k aA).1,df.ext e n _ _ _ (jV i k aA).2⟩⟩))
   · obtain ⟨aa,ms,ae,aF,bu⟩:=H
     exact ⟨aa,ms,ae,aF,fun i f k ax aA=>⟨(bu i f k ax aA).1,df.ext e n _ _ _ (bu i f k ax aA).2⟩⟩
   · refine ⟨H.1,?_⟩
     rcases H.2 with H | H | ⟨b,aa,cd,us,cb,cB,k,fM,fR⟩
     · exact .inl H
     · exact .inr (.inl H)
     · exact .inr (.inr ⟨b,aa,e.bR cd,us,e.rd cd cb,cB,k,fM,df.ext e n _ _ _ fR⟩)
mutual
def eU {H:Type}:DataW H→Nat
 | .lit (.string bytes)=>bytes.length+1
 | .lit _=>1
 | .nil=>1
 | .ptr d=>eU d+1
 | .slice elems spare=>kd elems+kd spare+1
 | .agg parts=>kd parts+1
 | .iface _ d=>eU d+1
 | .map entries=>zN entries+1
 | .held _=>1
def kd {H:Type}:List (DataW H)→Nat
 | []=>0
 | d::r=>eU d+kd r
def zN {H:Type}:List (Lit × DataW H)→Nat
 | []=>0
 | x::r=>DB x+zN r
def DB {H:Type}:Lit × DataW H→Nat
 | (.string bytes,d)=>bytes.length+eU d+1
 | (_,d)=>eU d+1
end
theorem pa {H:Type} (d:DataW H):1≤eU d:=by
 cases d with
 | lit l=>cases l<;>simp [eU]
 | _=>simp [eU]
theorem DA {H:Type}:∀l:List (DataW H),kd l=(l.map eU).sum
 | []=>by simp [kd]
 | d::r=>by simp only [kd,List.map_cons,List.sum_cons,DA r]
theorem zX {w:World} {base:Nat} {a:Addr} {n:Nat} {l:List Value} (h:w.cells? base a n=some l):l.length=n∧∀i,i<n→w.cell? (a.add i)=l[i]? :=by
 unfold World.cells? at h
 split at h
 · exact ⟨by simpa using mapM_some_length h,fun i az=>mapM_some_get h i i (by simp [az])⟩
 · cases h
theorem Py {E ar:Env} (he:E.le ar) {ad:List V} {l:List Value} (H:a8 E ad l):a8 ar ad l:=a8.mono he ad l H
section
variable {H:Type} {enc:TypeId × Value→H} {P:Program} {W:World} {base:Nat} {sp:Nat→Bool} {held:Bool}
def Lays (P:Program) (W:World) (n m:Nat) (t:TypeId) (cs:List Value):Prop:=
 ∀(E:Env) (h:af),a1 ⟨W,fun _=>none⟩ E h W→∃ar ab ad,E.le ar∧Ext h ab∧a1 ⟨W,fun _=>none⟩ ar ab W∧a8 ar ad cs∧ad.length=cs.length∧df P ab n m t ad
theorem Nu (n size:Nat) (e:TypeId):∀(pieces:List (List Value)) (ms:List Nat),ms.length=pieces.length→(∀(i:Nat) (l:List Value) (k:Nat),pieces[i]? =some l→ms[i]? =some k→l.length=size∧Lays P W n k e l)→
 ∀(E:Env) (h:af),a1 ⟨W,fun _=>none⟩ E h W→∃ar ab us,E.le ar∧Ext h ab∧a1 ⟨W,fun _=>none⟩ ar ab W∧a8 ar us pieces.flatten∧us.length=pieces.length * size∧
  ∀(i k:Nat),ms[i]? =some k→df P ab n k e ((us.drop (i * size)).take size)
 | [],[],_,_,E,h,s=>⟨E,h,[],fun _ _ q=>q,Ext.refl h,s,rfl,by simp,fun i k az=>by simp at az⟩
 | [],_::_,ai,_,_,_,_=>by simp at ai
 | _::_,[],ai,_,_,_,_=>by simp at ai
 | l::ls,m::ms,jM,ah,E,h,s=>by
   obtain ⟨ai,H⟩:=ah 0 l m rfl rfl
   obtain ⟨e9,aa,ad,bH,a2,a3,a4,a5,hW⟩:=H E h s
   obtain ⟨bQ,ae,us,b7,b_,gN,kM,kN,rZ⟩:=Nu n size e ls ms (by simpa using jM) (fun i l k aq av=>ah (i+1) l k (by simpa using aq) (by simpa using av)) e9 aa a3
   refine ⟨bQ,ae,ad++us,bH.trans b7,a2.trans b_,gN,?_,?_,?_⟩
   · rw [List.flatten_cons]
     exact a8.append (Py b7 a4) kM
   · rw [List.length_append,kN,a5,ai,List.length_cons,Nat.add_mul]
     omega
   · intro i k az
     cases i with
     | zero=>
       rw [Nat.zero_mul,List.drop_zero,List.take_left' (by rw [a5,ai])]
       simp only [List.getElem?_cons_zero,Option.some.injEq] at az
       subst az
       exact df.ext b_ _ _ _ _ hW
     | succ i=>
       rw [Nat.add_mul,Nat.one_mul,Nat.add_comm,←List.drop_drop,List.drop_left' (by rw [a5,ai])]
       exact rZ i k (by simpa using az)
theorem Nt (n:Nat):∀(bP:List Field) (ms:List Nat) (o bX:Nat) (cs:List Value),vM P bP o=some bX→cs.length=bX→ms.length=bP.length→(∀(i:Nat) (f:Field) (k:Nat),bP[i]? =some f→ms[i]? =some k→Lays P W n k f.type ((cs.drop f.offset).take (P.cellsOf f.type)))→
 o≤bX∧∀(E:Env) (h:af),a1 ⟨W,fun _=>none⟩ E h W→∃ar ab ad,E.le ar∧Ext h ab∧a1 ⟨W,fun _=>none⟩ ar ab W∧a8 ar ad (cs.drop o)∧ad.length=bX-o∧
  ∀(i:Nat) (f:Field) (k:Nat),bP[i]? =some f→ms[i]? =some k→o≤f.offset∧df P ab n k f.type ((ad.drop (f.offset-o)).take (P.cellsOf f.type))
 | [],_::_,_,_,_,_,_,jM,_=>by simp at jM
 | _::_,[],_,_,_,_,_,jM,_=>by simp at jM
 | [],[],o,bX,cs,aD,ai,_,_=>by
   simp only [vM,Option.some.injEq] at aD
   subst aD
   refine ⟨Nat.le_refl _,fun E h s=>⟨E,h,[],fun _ _ q=>q,Ext.refl h,s,?_,by simp,fun i f k ax=>by simp at ax⟩⟩
   rw [List.drop_eq_nil_of_le (by omega)]
   rfl
 | f::bP,m::ms,o,bX,cs,aD,ai,jM,ah=>by
   simp only [vM] at aD
   by_cases ax:f.offset=o
   · rw [if_pos ax] at aD
     obtain ⟨g1,g2⟩:=Nt n bP ms (o+P.cellsOf f.type) bX cs aD ai (by simpa using jM) (fun i f k aq av=>ah (i+1) f k (by simpa using aq) (by simpa using av))
     refine ⟨by omega,fun E h s=>?_⟩
     have sG:=ah 0 f m rfl rfl
     obtain ⟨e9,aa,ad,bH,a2,a3,a4,a5,hW⟩:=sG E h s
     obtain ⟨bQ,ae,us,b7,b_,gN,kM,kN,rZ⟩:=g2 e9 aa a3
     have pO:ad.length=P.cellsOf f.type:=by rw [a5,List.length_take,List.length_drop,ax];omega
     refine ⟨bQ,ae,ad++us,bH.trans b7,a2.trans b_,gN,?_,?_,?_⟩
     · have e:cs.drop o=(cs.drop f.offset).take (P.cellsOf f.type)++cs.drop (o+P.cellsOf f.type):=by
        rw [ax,←List.drop_drop,List.take_append_drop]
       rw [e]
       exact a8.append (Py b7 a4) kM
     · rw [List.length_append,pO,kN]
       omega
     · intro i g k aG aA
       cases i with
       | zero=>
         simp only [List.getElem?_cons_zero,Option.some.injEq] at aG aA
         subst aG aA
         refine ⟨by omega,?_⟩
         rw [ax,Nat.sub_self,List.drop_zero,List.take_left' pO]
         exact df.ext b_ _ _ _ _ hW
       | succ i=>
         obtain ⟨bs,bN⟩:=rZ i g k (by simpa using aG) (by simpa using aA)
         refine ⟨by omega,?_⟩
         rw [show g.offset-o=P.cellsOf f.type + (g.offset - (o+P.cellsOf f.type)) from by omega,←List.drop_drop,List.drop_left' pO]
         exact bN
   · rw [if_neg ax] at aD
     cases aD
theorem Kp {w:World} {a:Addr} {y:Value} (h:w.cell? a=some y):a.spot=none∧∃c el bL,w.heap[a.block]? =some (.cells c el bL)∧c[a.off]? =some y:=by
 refine ⟨World.cell?_spot h,?_⟩
 unfold World.cell? at h
 split at h
 · rename_i c el bL a'
   split at h
   · cases h
   · exact ⟨c,el,bL,a',h⟩
 · cases h
theorem Sg (a:Addr) (n:Nat):(a.add n).block=a.block:=by unfold Addr.add;split<;>rfl
theorem Sh (a:Addr) (n:Nat):(a.add n).off=a.off+n:=by unfold Addr.add;split<;>simp_all
theorem afr {w:World} {a:Addr} {l:List Value} (ba:0<l.length) (h:∀i,i<l.length→w.cell? (a.add i)=l[i]?):
 a.spot=none∧∃c el bL,w.heap[a.block]? =some (.cells c el bL)∧a.off+l.length≤c.size∧∀i,i<l.length→c[a.off+i]? =l[i]? :=by
 have sh:w.cell? (a.add 0)=some l[0]:=by rw [h 0 ba];exact List.getElem?_eq_getElem ba
 obtain ⟨s1,c,el,bL,s2,ll⟩:=Kp sh
 have cI:a.add 0=a:=by unfold Addr.add;simp
 rw [cI] at s1 s2 ll
 have key:∀i,i<l.length→c[a.off+i]? =l[i]? :=by
  intro i az
  have q:=h i az
  rw [List.getElem?_eq_getElem az] at q ⊢
  obtain ⟨_,eM,ahN,ahQ,t2,t3⟩:=Kp q
  rw [Sg,s2] at t2
  rw [Sh] at t3
  simp only [Option.some.injEq,Obj.cells.injEq] at t2
  obtain ⟨rfl,_,_⟩:=t2
  exact t3
 refine ⟨s1,c,el,bL,s2,?_,key⟩
 have:=key (l.length-1) (by omega)
 rw [List.getElem?_eq_getElem (by omega)] at this
 have aP:=(Array.getElem?_eq_some_iff.1 this).1
 omega
theorem QD {E:Env} {h:af} (s:a1 ⟨W,fun _=>none⟩ E h W) {a:Addr} {cap:Nat} {l:List Value} (ba:0<l.length) (ao:∀i,i<l.length→W.cell? (a.add i)=l[i]?) {us:List V} (aH:a8 E us l):
 ∃ar ab b,E.le ar∧Ext h ab∧a1 ⟨W,fun _=>none⟩ ar ab W∧Old ab b∧a.spot=none∧ar b=some ⟨a.block,a.off,cap⟩∧Rd ab b us:=by
 obtain ⟨s1,c,el,bL,s2,ll,vG⟩:=afr ba ao
 have MM:us.length=l.length:=(a8.length aH).symm
 refine ⟨oS E h ⟨a.block,a.off,cap⟩,h.new (.ro us),ay h.next,Iz s _,(Ext.refl h).new _,afU s s2 (by omega) fun i v y bp a6=>?_,Oq,s1,QC _ _ _,.inl (mV _)⟩
 have az:i<l.length:=by
  have:=(List.getElem?_eq_some_iff.1 bp).1
  omega
 rw [vG i az] at a6
 obtain ⟨ql,aN,aY⟩:=a8.get aH i v bp
 rw [a6] at aN
 simp only [Option.some.injEq] at aN
 rw [aN]
 exact aY
theorem Lk {α:Type} (size:Nat):∀(pieces:List (List α)) (i j:Nat),(∀l ∈ pieces,l.length=size)→i<pieces.length→j<size→pieces.flatten[i * size+j]? =(pieces[i]?).bind (·[j]?)
 | [],i,j,_,az,_=>by simp at az
 | l::ls,i,j,ah,az,bI=>by
   have ai:l.length=size:=ah l (by simp)
   cases i with
   | zero=>
     rw [Nat.zero_mul,Nat.zero_add,List.flatten_cons,List.getElem?_append_left (by omega)]
     simp
   | succ i=>
     rw [List.flatten_cons,List.getElem?_append_right (by rw [ai,Nat.add_mul];omega)]
     rw [show (i+1) * size+j-l.length=i * size+j from by rw [ai,Nat.add_mul];omega]
     rw [Lk size ls i j (fun l ai=>ah l (by simp [ai])) (by simpa using az) bI]
     simp
theorem Lm {α:Type} (size:Nat):∀(pieces:List (List α)),(∀l ∈ pieces,l.length=size)→pieces.flatten.length=pieces.length * size
 | [],_=>by simp
 | l::ls,ah=>by
   rw [List.flatten_cons,List.length_append,Lm size ls (fun l ai=>ah l (by simp [ai])),ah l (by simp),List.length_cons,Nat.add_mul]
   omega
theorem OR {α:Type} (R:Nat→α→Prop):∀(len:Nat),(∀i,i<len→∃l,R i l)→∃bc:List α,bc.length=len∧∀i l,bc[i]? =some l→R i l
 | 0,_=>⟨[],rfl,fun i l q=>by simp at q⟩
 | m+1,h=>by
   obtain ⟨bc,aq,av⟩:=OR R m (fun i az=>h i (by omega))
   obtain ⟨l,aa⟩:=h m (by omega)
   refine ⟨bc++[l],by simp [aq],fun i ec eD=>?_⟩
   by_cases az:i<bc.length
   · rw [List.getElem?_append_left az] at eD
     exact av i ec eD
   · rw [List.getElem?_append_right (by omega)] at eD
     have cI:i-bc.length=0:=by
      by_cases q:i-bc.length=0
      · exact q
      · rw [List.getElem?_eq_none (by simp;omega)] at eD
        cases eD
     rw [cI] at eD
     simp at eD
     subst eD
     obtain rfl:i=m:=by omega
     exact aa
theorem Be (dI:tq P=true) (cV:laidOutB P=true):∀(n:Nat) (t:TypeId) (cs:List Value) (x:DataW H × List MemPlace),t<P.types.size→DataW.trod enc P W base sp held n t cs=some x→Lays P W n (eU x.1) t cs
 | 0,t,cs,x,_,h=>by simp [DataW.trod] at h
 | n+1,t,cs,x,aP,h=>by
   have zH:∀(cs:List Value),(∀ab ad,ad.length=cs.length→df P ab (n+1) (eU x.1) t ad)→Lays P W (n+1) (eU x.1) t cs:=by
    intro cs H E h s
    refine ⟨E,h,cs.map fun _=>.bad,fun _ _ q=>q,Ext.refl h,s,?_,by simp,H _ _ (by simp)⟩
    clear H
    induction cs with
    | nil=>rfl
    | cons c cs bf=>exact ⟨c,cs,rfl,by simp [Rel],bf⟩
   cases hu:P.underlying t with
   | none=>
     refine zH cs fun ab ad _=>?_
     simp only [df,hu]
   | some u=>
     cases u with
     | bool=>
       obtain ⟨b,rfl,_⟩:=DataW.trod_bool hu h
       intro E h s
       exact ⟨E,h,[.bool b],fun _ _ q=>q,Ext.refl h,s,⟨_,_,rfl,rfl,rfl⟩,rfl,by simp only [df,hu];exact ⟨b,rfl⟩⟩
     | int k=>
       obtain ⟨i,rfl,_,hw⟩:=DataW.trod_int hu h
       intro E h s
       exact ⟨E,h,[.int k i],fun _ _ q=>q,Ext.refl h,s,⟨_,_,rfl,rfl,rfl⟩,rfl,by simp only [df,hu];exact ⟨i,rfl,hw⟩⟩
     | string=>
       obtain ⟨b,rfl,rfl,_⟩:=DataW.trod_string hu h
       intro E h s
       exact ⟨E,h,[.str b.data.toList],fun _ _ q=>q,Ext.refl h,s,⟨_,_,rfl,rfl,rfl⟩,rfl,by simp only [df,hu,eU];exact ⟨_,rfl,Nat.le_refl _⟩⟩
     | struct bP=>
       obtain ⟨xs,gT,aZ,rfl,ai,u7,ax⟩:=DataW.trod_struct hu h
       obtain rfl:n=gT:=by omega
       have ZP:vM P bP.toList 0=some (P.cellsOf t):=by
        unfold tq at dI
        rw [List.all_eq_true] at dI
        have:=dI t (List.mem_range.2 aP)
        rw [hu] at this
        exact of_decide_eq_true this
       have ha:∀(i:Nat) (f:Field) (k:Nat),bP.toList[i]? =some f→(xs.map fun x=>eU x.1)[i]? =some k→Lays P W n k f.type ((cs.drop f.offset).take (P.cellsOf f.type)):=by
        intro i f k az aA
        have me:f ∈ bP.toList:=List.mem_of_getElem? az
        have sv:bP[i]? =some f:=by simpa using az
        have:=ax i f sv
        have Mk:i<xs.length:=by
         rw [u7]
         exact (Array.getElem?_eq_some_iff.1 sv).1
        rw [List.getElem?_eq_getElem Mk] at this
        rw [List.getElem?_map,List.getElem?_eq_getElem Mk,Option.map_some,Option.some.injEq] at aA
        subst aA
        exact Be dI cV n _ _ _ ((kid_struct cV aP hu).1 f me) this
       intro E h s
       obtain ⟨_,g⟩:=Nt n bP.toList (xs.map fun x=>eU x.1) 0 _ cs ZP ai (by simp [u7]) ha
       obtain ⟨ar,ab,ad,bH,a2,a3,a4,a5,hW⟩:=g E h s
       refine ⟨ar,ab,ad,bH,a2,a3,by simpa using a4,by rw [a5,ai];omega,?_⟩
       simp only [df,hu]
       refine ⟨by omega,xs.map fun x=>eU x.1,by simp [u7],?_,fun i f k me aA=>⟨?_,by simpa using (hW i f k me aA).2⟩⟩
       · simp only [eU,DA,List.map_map]
         exact Nat.le_refl _
       · rw [List.getElem?_map,Option.map_eq_some_iff] at aA
         obtain ⟨y,_,rfl⟩:=aA
         exact pa _
     | slice e=>
       rcases DataW.trod_slice hu h with ⟨rfl,rfl⟩ | ⟨a,len,cap,elems,rest,gT,aZ,rfl,rfl,ag,pC,_,L8,FK,_,_⟩
       · intro E h s
         exact ⟨E,h,[.b4],fun _ _ q=>q,Ext.refl h,s,⟨_,_,rfl,rfl,rfl⟩,rfl,by simp only [df,hu];exact ⟨pa _,.inl trivial⟩⟩
       · obtain rfl:n=gT:=by omega
         by_cases aQ:P.cellsOf e=0
         · refine zH _ fun ab ad _=>?_
           simp only [df,hu]
           exact ⟨pa _,.inr (.inr (.inl aQ))⟩
         by_cases lG:len=0
         · subst lG
           intro E h s
           refine ⟨E,h,[.fO .z 0 0 0],fun _ _ q=>q,Ext.refl h,s,⟨_,_,rfl,?_,rfl⟩,rfl,by simp only [df,hu];exact ⟨pa _,.inr (.inl ⟨_,_,_,_,rfl⟩)⟩⟩
           simp only [Rel]
           exact ⟨_,_,rfl⟩
         · -- its elements
           have iK:∀i,i<len→∃l,W.cells? base (a.add (i * P.cellsOf e)) (P.cellsOf e)=some l∧∀k:Nat,(elems.map fun x=>eU x.1)[i]? =some k→Lays P W n k e l:=by
            intro i az
            have:=FK i az
            rw [List.getElem?_eq_getElem (by omega)] at this
            rw [Option.bind_eq_some_iff] at this
            obtain ⟨l,aa,ae⟩:=this
            refine ⟨l,aa,fun k aA=>?_⟩
            rw [List.getElem?_map,List.getElem?_eq_getElem (by omega),Option.map_some,Option.some.injEq] at aA
            subst aA
            exact Be dI cV n _ _ _ (kid_slice cV aP hu) ae
           obtain ⟨pieces,hb,gH⟩:∃pieces:List (List Value),pieces.length=len∧∀i (l:List Value),pieces[i]? =some l→W.cells? base (a.add (i * P.cellsOf e)) (P.cellsOf e)=some l∧∀k:Nat,(elems.map fun x=>eU x.1)[i]? =some k→Lays P W n k e l:=by
            exact OR (fun i l=>W.cells? base (a.add (i * P.cellsOf e)) (P.cellsOf e)=some l∧∀k:Nat,(elems.map fun x=>eU x.1)[i]? =some k→Lays P W n k e l) len iK
           have h5:∀(i:Nat) (l:List Value) (k:Nat),pieces[i]? =some l→(elems.map fun x=>eU x.1)[i]? =some k→l.length=P.cellsOf e∧Lays P W n k e l:=by
            intro i l k az aA
            obtain ⟨aq,av⟩:=gH i l az
            exact ⟨(zX aq).1,av k aA⟩
           have My:∀l ∈ pieces,l.length=P.cellsOf e:=by
            intro l ai
            obtain ⟨i,az⟩:=List.getElem?_of_mem ai
            exact (zX (gH i l az).1).1
           intro E h s
           obtain ⟨e9,aa,us,bH,a2,a3,a4,a5,hW⟩:=Nu n (P.cellsOf e) e pieces (elems.map fun x=>eU x.1) (by simp [L8,hb]) h5 E h s
           have ha:=Lm (P.cellsOf e) pieces My
           have xz:0<len * P.cellsOf e:=Nat.mul_pos (by omega) (by omega)
           have pw:∀i,i<pieces.flatten.length→W.cell? (a.add i)=pieces.flatten[i]? :=by
            intro q aC
            rw [ha] at aC
            have Mq:q % P.cellsOf e<P.cellsOf e:=Nat.mod_lt _ (by omega)
            have hdiv:q / P.cellsOf e<pieces.length:=Nat.div_lt_of_lt_mul (by rw [Nat.mul_comm];exact aC)
            have uV:q / P.cellsOf e * P.cellsOf e+q % P.cellsOf e=q:=by rw [Nat.mul_comm];exact Nat.div_add_mod q _
            rw [←uV,Lk (P.cellsOf e) pieces _ _ My hdiv Mq,List.getElem?_eq_getElem hdiv]
            obtain ⟨aq,_⟩:=gH _ _ (List.getElem?_eq_getElem hdiv)
            have:=(zX aq).2 _ Mq
            rw [Option.bind_some,←this]
            congr 1
            unfold Addr.add
            by_cases cm:q / P.cellsOf e * P.cellsOf e=0
            · rw [cm];simp
            · by_cases z2:q % P.cellsOf e=0
              · rw [z2];simp
              · have z3:¬(q / P.cellsOf e * P.cellsOf e+q % P.cellsOf e=0):=by omega
                rw [if_neg cm,if_neg z2,if_neg z3]
                simp [Nat.add_assoc]
           obtain ⟨bQ,ae,b,b7,b_,gN,kM,kN,rZ,Dt⟩:=QD a3 (cap:=cap) (by rw [ha,hb];exact xz) pw a4
           refine ⟨bQ,ae,[.slice b 0 len cap],bH.trans b7,a2.trans b_,gN,⟨_,_,rfl,?_,rfl⟩,rfl,?_⟩
           · simp only [Rel]
             refine ⟨_,rZ,pC,?_⟩
             obtain ⟨SX,ad0,st⟩:=a
             simp only at kN
             subst kN
             rfl
           · simp only [df,hu]
             refine ⟨pa _,.inr (.inr (.inr ⟨b,len,cap,rfl,by omega,pC,kM,us,Dt,by rw [a5,hb],elems.map fun x=>eU x.1,by simp [L8],?_,fun i k aA=>⟨?_,df.ext b_ _ _ _ _ (hW i k aA)⟩⟩))⟩
             · simp only [eU,DA,List.map_map]
               exact Nat.add_le_add_right (Nat.le_add_right _ _) 1
             · rw [List.getElem?_map,Option.map_eq_some_iff] at aA
               obtain ⟨y,_,rfl⟩:=aA
               exact pa _
     | pointer e=>
       rcases DataW.trod_pointer hu h with ⟨rfl,rfl⟩ | ⟨a,ua,y,gT,aZ,rfl,rfl,ao,a6⟩
       · intro E h s
         exact ⟨E,h,[.jZ],fun _ _ q=>q,Ext.refl h,s,⟨_,_,rfl,rfl,rfl⟩,rfl,by simp only [df,hu];exact ⟨pa _,.inl trivial⟩⟩
       · obtain rfl:n=gT:=by omega
         by_cases aQ:P.cellsOf e=0
         · refine zH _ fun ab ad _=>?_
           simp only [df,hu]
           exact ⟨pa _,.inr (.inl aQ)⟩
         · intro E h s
           obtain ⟨aq,av⟩:=zX ao
           obtain ⟨e9,aa,us,bH,a2,a3,a4,a5,hW⟩:=Be dI cV n _ _ _ (kid_pointer cV aP hu) a6 E h s
           obtain ⟨bQ,ae,b,b7,b_,gN,kM,kN,rZ,Dt⟩:=QD a3 (cap:=0) (by omega) (fun i az=>av i (by omega)) a4
           refine ⟨bQ,ae,[.ptr b 0],bH.trans b7,a2.trans b_,gN,⟨_,_,rfl,?_,rfl⟩,rfl,?_⟩
           · simp only [Rel]
             refine ⟨_,rZ,?_⟩
             obtain ⟨SX,ad0,st⟩:=a
             simp only at kN
             subst kN
             rfl
           · simp only [df,hu]
             exact ⟨pa _,.inr (.inr ⟨b,rfl,kM,us,Dt,by omega,_,Nat.le_refl _,df.ext b_ _ _ _ _ hW⟩)⟩
     | map k e=>
       have gb:cs.length=1:=by
        unfold DataW.trod at h
        rw [hu] at h
        split at h<;>simp_all
       intro E h s
       refine ⟨E,h,[.bad],fun _ _ q=>q,Ext.refl h,s,?_,by simp [gb],by simp only [df,hu];exact .inr trivial⟩
       match cs,gb with
       | [c],_=>exact ⟨c,[],rfl,by simp [Rel],rfl⟩
     | interface ms=>
       have gb:cs.length=1:=by
        unfold DataW.trod at h
        rw [hu] at h
        split at h<;>simp_all
       intro E h s
       refine ⟨E,h,[.bad],fun _ _ q=>q,Ext.refl h,s,?_,by simp [gb],by simp only [df,hu];exact .inr trivial⟩
       match cs,gb with
       | [c],_=>exact ⟨c,[],rfl,by simp [Rel],rfl⟩
     | _=>
       refine zH cs fun ab ad _=>?_
       simp only [df,hu]
def nT (P:Program) (h:af) (n m:Nat) (t:TypeId) (v:V):Prop:=
 match P.underlying t with
 | some (.struct _) | some (.array _ _)=>∃ad,v=.agg ad∧df P h n m t ad
 | _=>df P h n m t [v]
theorem nT.ext {h ab:af} (e:Ext h ab) {n m:Nat} {t:TypeId} {v:V} (H:nT P h n m t v):nT P ab n m t v:=by
 unfold nT at H ⊢
 split at H
 · obtain ⟨ad,aq,av⟩:=H
   exact ⟨ad,aq,df.ext e _ _ _ _ av⟩
 · obtain ⟨ad,aq,av⟩:=H
   exact ⟨ad,aq,df.ext e _ _ _ _ av⟩
 · exact df.ext e _ _ _ _ H
theorem acN (dI:tq P=true) (cV:laidOutB P=true) {r:Reach} {rY:Nat} {t:TypeId} {v:Value} {d:DataW H} {p:List MemPlace} (aP:t<P.types.size) (bt:Value.okWide P W r rY t v) (aX:DataW.Trod enc P W base sp held t v d p) {E:Env} {h:af} (s:a1 ⟨W,fun _=>none⟩ E h W):
 ∃n ar ab x,E.le ar∧Ext h ab∧a1 ⟨W,fun _=>none⟩ ar ab W∧Rel ar x v∧nT P ab n (eU d) t x:=by
 obtain ⟨fuel,ax⟩:=aX
 obtain ⟨ar,ab,ad,bH,a2,a3,a4,a5,hW⟩:=Be dI cV _ _ _ _ aP ax E h s
 have agg:(∃cs,v=.agg cs)→∃x,Rel ar x v∧x=.agg ad:=by
  rintro ⟨cs,rfl⟩
  exact ⟨.agg ad,by simp only [Rel];exact ⟨cs,rfl,a4⟩,rfl⟩
 have one:v.cells=#[v]→∃x,Rel ar x v∧ad=[x]:=by
  intro ao
  rw [ao] at a4 a5
  match ad,a4,a5 with
  | [x],⟨y,b',aN,aY,cz⟩,_=>
    simp only [List.cons.injEq] at aN
    exact ⟨x,aN.1 ▸ aY,rfl⟩
 refine ⟨fuel,ar,ab,?_⟩
 unfold Value.okWide at bt
 cases hu:P.underlying t with
 | none=>
   rw [hu] at bt
   simp only [Cell.okWide,Cell.ok,hu] at bt
 | some u=>
   rw [hu] at bt
   unfold nT
   rw [hu]
   cases u<;>simp only at bt ⊢<;>first
    | (obtain ⟨cs,bp,_⟩:=bt
       obtain ⟨x,aq,av⟩:=agg ⟨cs,bp⟩
       exact ⟨x,bH,a2,a3,aq,ad,av,hW⟩)
    | (have ao:v.cells=#[v]:=by
        cases v<;>first
         | rfl
         | (simp only [Cell.okWide,Cell.ok,hu] at bt)
       obtain ⟨x,aq,av⟩:=one ao
       exact ⟨x,bH,a2,a3,aq,av ▸ hW⟩)
def lx (P:Program) (h:af):Nat→List TypeId→List V→Prop
 | _,[],[]=>True
 | m,t::cl,v::ad=>∃k bl,k+bl≤m∧(∃n,nT P h n k t v)∧lx P h bl cl ad
 | _,_,_=>False
theorem lx.mono {h:af}:∀{m cW:Nat} {cl:List TypeId} {ad:List V},m≤cW→lx P h m cl ad→lx P h cW cl ad
 | _,_,[],[],_,H=>by unfold lx;trivial
 | _,_,[],_::_,_,H=>H.elim
 | _,_,_::_,[],_,H=>H.elim
 | _,_,_::_,_::_,hm,⟨k,bl,aA,H,jz⟩=>⟨k,bl,Nat.le_trans aA hm,H,jz⟩
theorem Ns (dI:tq P=true) (cV:laidOutB P=true) {r:Reach} {rY:Nat}:∀{cl:List TypeId} {ad:List Value} {ds:List (DataW H)} {p:List MemPlace},(∀t ∈ cl,t<P.types.size)→(∀(j:Nat) t v,cl[j]? =some t→ad[j]? =some v→Value.okWide P W r rY t v)→
 DataW.TrodAll enc P W base sp held cl ad ds p→∀{E:Env} {h:af},a1 ⟨W,fun _=>none⟩ E h W→∃ar ab xs,E.le ar∧Ext h ab∧a1 ⟨W,fun _=>none⟩ ar ab W∧a8 ar xs ad∧lx P ab (kd ds) cl xs
 | [],[],ds,p,_,_,_,E,h,s=>⟨E,h,[],fun _ _ q=>q,Ext.refl h,s,rfl,by unfold lx;trivial⟩
 | [],_::_,ds,p,_,_,aX,E,h,s=>by cases ds<;>exact aX.elim
 | _::_,[],ds,p,_,_,aX,E,h,s=>by cases ds<;>exact aX.elim
 | _::_,_::_,[],p,_,_,aX,E,h,s=>aX.elim
 | t::cl,v::ad,d::ds,p,aD,bp,⟨b2,cq,aa,ae,_⟩,E,h,s=>by
   obtain ⟨n,e9,g1,x,bH,a2,a3,a4,a5⟩:=acN dI cV (aD t (by simp)) (bp 0 t v rfl rfl) aa s
   obtain ⟨bQ,g2,xs,b7,b_,gN,kM,kN⟩:=Ns dI cV (fun t q=>aD t (by simp [q])) (fun j t v aq av=>bp (j+1) t v (by simpa using aq) (by simpa using av)) ae a3
   exact ⟨bQ,g2,x::xs,bH.trans b7,a2.trans b_,gN,⟨_,_,rfl,Rel.mono b7 _ _ a4,kM⟩,eU d,kd ds,by simp only [kd];exact Nat.le_refl _,⟨n,a5.ext b_⟩,kN⟩
theorem Vu (dI:tq P=true) (cV:laidOutB P=true) {r:Reach} {rY:Nat} {f:FuncId} {cl:List TypeId} {ad:List Value} {ds:List (DataW H)} {p:List MemPlace} (eE:∀t ∈ cl,t<P.types.size) (bp:∀(j:Nat) t v,cl[j]? =some t→ad[j]? =some v→Value.okWide P W r rY t v)
 (aX:DataW.TrodAll enc P W base sp held cl ad ds p) (uE:Lay.ok W) (bx:dU P) (ag:∃fn,P.funcs[f]? =some fn∧fn.body.isSome=true) (ao:∀(h:af) (xs:List V),lx P h (kd ds) cl xs→bM P f xs h fun y _=>y=.bool true):
 Calls P f ad.toArray W fun e aj=>e=.returned (.bool true)∧Below W.heap.size W aj:=by
 obtain ⟨E,h,xs,_,_,a3,a4,a5⟩:=Ns dI cV eE bp aX (Cf W uE)
 obtain ⟨y,ab,na,rfl⟩:=ao h xs a5
 refine (na.calls bx ag _ E W ad a4 a3).mono fun e aj q=>?_
 obtain ⟨ar,x,rfl,_,av,aK⟩:=q
 simp only [Rel] at av
 subst av
 exact ⟨rfl,aK.frame⟩
end
end Go.Proofs.YtkehcalakofigaaGreatDoor.aS
namespace Go.Proofs.YtkehcalakofigaaGreatDoor.aS
variable [Lay]
open Go Go.RowKit
section
variable {P:Program} {h:af} {n m:Nat} {t:TypeId}
theorem df.pos {ad:List V} (H:df P h n m t ad):∃k,n=k+1:=by
 cases n with
 | zero=>exact H.elim
 | succ m=>exact ⟨m,rfl⟩
theorem df.int {ad:List V} {k:IntKind} (H:df P h n m t ad) (hu:P.underlying t=some (.int k)):∃i,ad=[.int k i]∧(Lit.int k i).wf=true:=by
 obtain ⟨m,rfl⟩:=H.pos
 simpa only [df,hu] using H
theorem df.str {ad:List V} (H:df P h n m t ad) (hu:P.underlying t=some .string):∃s:List UInt8,ad=[.str s]∧s.length+1≤m:=by
 obtain ⟨_,rfl⟩:=H.pos
 simpa only [df,hu] using H
theorem df.struct {ad:List V} {bP:Array Field} (H:df P h n m t ad) (hu:P.underlying t=some (.struct bP)):∃gT,n=gT+1∧ad.length=P.cellsOf t∧∃ms:List Nat,ms.length=bP.toList.length∧ms.sum+1≤m∧
 ∀(i:Nat) (f:Field) (k:Nat),bP.toList[i]? =some f→ms[i]? =some k→1≤k∧df P h gT k f.type ((ad.drop f.offset).take (P.cellsOf f.type)):=by
 obtain ⟨gT,rfl⟩:=H.pos
 refine ⟨gT,rfl,?_⟩
 simpa only [df,hu] using H
def vC (v:V):Prop:=∀b off l c,v=.slice b off l c→l≤c
def Jp (h:af) (size:Nat) (v:V) (len m:Nat) (Q:Nat→List V→Prop):Prop:=
 v.one=true∧v.cells=[v]∧v.eW=true∧jo v=some (.int .i64 len)∧vC v∧∃(us:List V) (ms:List Nat),eL h size v len us∧ms.length=len∧ms.sum+1≤m∧∀(i k:Nat),ms[i]? =some k→1≤k∧Q k ((us.drop (i * size)).take size)
theorem df.slice {ad:List V} {e:TypeId} (H:df P h n m t ad) (hu:P.underlying t=some (.slice e)) (aQ:P.cellsOf e≠0):∃gT v len,n=gT+1∧ad=[v]∧Jp h (P.cellsOf e) v len m (fun k=>df P h gT k e):=by
 obtain ⟨gT,rfl⟩:=H.pos
 simp only [df,hu] at H
 obtain ⟨ba,H⟩:=H
 rcases H with rfl | ⟨b,i,j,k,rfl⟩ | q | ⟨b,len,cap,rfl,aa,ae,bu,us,cb,cB,ms,fM,fR,jV⟩
 · exact ⟨gT,_,0,rfl,rfl,rfl,rfl,rfl,rfl,(fun _ _ _ _ e=>by cases e),[],[],⟨by simp,rfl⟩,rfl,by simpa using ba,fun i k az=>by simp at az⟩
 · exact ⟨gT,_,0,rfl,rfl,rfl,rfl,rfl,rfl,(fun _ _ _ _ e=>by cases e),[],[],⟨by simp,rfl⟩,rfl,by simpa using ba,fun i k az=>by simp at az⟩
 · exact absurd q aQ
 · exact ⟨gT,_,len,rfl,rfl,rfl,rfl,rfl,rfl,(fun _ _ _ _ e=>by cases e;exact ae),us,ms,⟨cB,rfl,bu,us,cb,by omega,by simp⟩,fM,fR,jV⟩
end
end Go.Proofs.YtkehcalakofigaaGreatDoor.aS
namespace Go.Proofs.YtkehcalakofigaaGreatDoor.aS
variable [Lay]
open Go Go.RowKit Go.ChangeShapes Go.WideShapes
section
variable {H:Type} {enc:TypeId × Value→H} {P:Program}
theorem JT (cV:laidOutB P=true) {W wv:World} (ag:Below W.heap.size W wv):∀{cl:List TypeId} {ad:List Value} {ds:List (DataW H)} {bc:List MemPlace},(cl.all fun t=>P.readableRec t&&decide (t<P.types.size))=true→
 DataW.TrodAll enc P W 0 (fun _=>true) true cl ad ds bc→DataW.TrodAll enc P wv 0 (fun b=>decide (b<W.heap.size)) true cl ad ds bc
 | [],[],[],_,_,h=>h
 | [],_::_,_,_,_,h=>by rename_i ds _;cases ds<;>exact h.elim
 | [],[],_::_,_,_,h=>h.elim
 | _::_,[],_,_,_,h=>by rename_i ds _;cases ds<;>exact h.elim
 | _::_,_::_,[],_,_,h=>h.elim
 | t::cl,v::ad,d::ds,bc,aH,h=>by
   have aP:=h.lt
   obtain ⟨p,q,aa,ae,rfl⟩:=h
   simp only [List.all_cons,Bool.and_eq_true,decide_eq_true_eq] at aH
   exact ⟨p,q,Below.trod cV aH.1.1 aH.1.2 aa ag (fun x ak=>aP x (by simp [ak])),JT cV ag aH.2 ae,rfl⟩
theorem Qq {W:World} {base:Nat} {sp:Nat→Bool} {held:Bool}:∀{cl:List TypeId} {ad:List Value} {ds:List (DataW H)} {bc:List MemPlace},DataW.TrodAll enc P W base sp held cl ad ds bc→ds.length=cl.length
 | [],[],[],_,_=>rfl
 | [],_::_,ds,_,h=>by cases ds<;>exact h.elim
 | [],[],_::_,_,h=>h.elim
 | _::_,[],ds,_,h=>by cases ds<;>exact h.elim
 | _::_,_::_,[],_,h=>h.elim
 | t::cl,v::ad,d::ds,bc,h=>by
   obtain ⟨p,q,aa,ae,rfl⟩:=h
   simp [Qq ae]
theorem acB (dI:tq P=true) (cV:laidOutB P=true) {f:FuncId} {fn:Func} {s:ChangeSpec} {It:TypeId} (eE:(fn.params.toList.all fun t=>P.readableRec t&&decide (t<P.types.size))=true) (MQ:s.vars=[]) (ZD:fn.resultTypes=#[It]) (ZV:P.underlying It=some .bool)
 (Gr:∀ds:List (DataW H),ds.length=fn.params.size→s.fn H (ds++[])={results:=[.lit (.bool true)],args:=ds})
 {B:Nat} (ao:∀(h:af) (xs:List V),lx P h B fn.params.toList xs→bM P f xs h fun y _=>y=.bool true)
 {W:World} {base:Nat} {args:Array Value} {ds gs:List (DataW H)} {before:List MemPlace} (aA:kd (ds++gs)≤B) (ji:Lay.ok W) (bx:dU P) (ag:∃fn,P.funcs[f]? =some fn∧fn.body.isSome=true)
 (Gu:∀(j:Nat) t v,fn.params[j]? =some t→args[j]? =some v→Value.okWide P W .any base t v) (uE:DataW.Whole enc P fn.params.toList s.vars false W args.toList ds gs before):
 Calls P f args W fun e wv=>∃v,e=.returned v∧s.post enc P fn false true false false W args v wv:=by
 have Yj:=uE
 obtain ⟨p,q,lC,LY,rfl,oe,mf⟩:=uE
 rw [MQ] at LY
 obtain ⟨rfl,rfl⟩:=trodVars_none LY
 have hlen:ds.length=fn.params.size:=by rw [Qq lC];simp
 have hw:=Vu dI cV (rY:=base) (r:=.any) (fun t aD=>by
  have:=List.all_eq_true.1 eE t aD
  simp only [Bool.and_eq_true,decide_eq_true_eq] at this
  exact this.2) (fun j t v aa ae=>Gu j t v (by simpa using aa) (by simpa using ae)) lC ji bx ag (fun h xs q=>ao h xs (q.mono (by simpa using aA)))
 simp only [Array.toArray_toList] at hw
 refine hw.mono fun e wv ⟨he,JS⟩=>?_
 subst he
 refine ⟨_,rfl,ds,[],p++[],[],p,[],Yj,?_,?_,?_,JS.frame _,fun h=>by cases h⟩
 · rw [Gr ds hlen,ZD]
   exact trodAll_mk1 (shut_bool ZV _)
 · rw [Gr ds hlen]
   exact JT cV JS eE lC
 · rw [Gr ds hlen,MQ]
   rfl
end
end Go.Proofs.YtkehcalakofigaaGreatDoor.aS
namespace Go.Proofs.YtkehcalakofigaaGreatDoor.aS
variable [Lay]
open Go Go.RowKit
theorem afO {P:Program} {h:af} {B:Nat} {xs:List V} (aQ:lx P h B [] xs):xs=[]:=by
 match xs,aQ with
 | [],_=>rfl
theorem afN {P:Program} {h:af} {B:Nat} {t:TypeId} {cl:List TypeId} {xs:List V} (aQ:lx P h B (t::cl) xs):∃a zy k bl n,xs=a::zy∧k+bl≤B∧nT P h n k t a∧lx P h bl cl zy:=by
 match xs,aQ with
 | a::zy,⟨k,bl,aA,⟨n,ba⟩,aa⟩=>exact ⟨a,zy,k,bl,n,rfl,aA,ba,aa⟩
section
variable {P:Program} {h:af} {n m:Nat} {t:TypeId} {v:V}
theorem afP {bP:Array Field} (aQ:nT P h n m t v) (hu:P.underlying t=some (.struct bP)):∃ad,v=.agg ad∧df P h n m t ad:=by
 unfold nT at aQ
 rw [hu] at aQ
 exact aQ
end
end Go.Proofs.YtkehcalakofigaaGreatDoor.aS
namespace Go.Proofs.YtkehcalakofigaaGreatDoor.aS
variable [Lay]
open Go Go.RowKit
inductive D where
 | i (k:IntKind) (n:Int)
 | b (x:Bool)
 | s (x:List UInt8)
 | l (size:Nat) (es:List (List D))
inductive b9 (F:aO→Prop) (h:af):List D→List V→Prop
 | nil:b9 F h [] []
 | i {k:IntKind} {n:Int} {ds:List D} {ad:List V} (t:b9 F h ds ad):b9 F h (.i k n::ds) (.int k n::ad)
 | b {x:Bool} {ds:List D} {ad:List V} (t:b9 F h ds ad):b9 F h (.b x::ds) (.bool x::ad)
 | s {x:List UInt8} {ds:List D} {ad:List V} (ag:x.length≤top) (t:b9 F h ds ad):b9 F h (.s x::ds) (.str x::ad)
 | l {size:Nat} {es:List (List D)} {v:V} {us:List (List V)} {ds:List D} {ad:List V} (aH:vC v) (ag:es.length≤top) (aQ:eL h size v es.length us.flatten) (hu:us.length=es.length) (bh:∀u ∈ us,u.length=size)
    (kids:∀(i:Nat) (e:List D) (u:List V),es[i]? =some e→us[i]? =some u→b9 F h e u) (ax:∀b,v.a_ b→F b) (t:b9 F h ds ad):b9 F h (.l size es::ds) (v::ad)
structure ch (F:aO→Prop) (h:af) (size:Nat) (es:List (List D)) (v:V):Prop where
 room:vC v
 le:es.length≤top
 ex:∃us:List (List V),eL h size v es.length us.flatten∧us.length=es.length∧(∀u ∈ us,u.length=size)∧∀(i:Nat) (e:List D) (u:List V),es[i]? =some e→us[i]? =some u→b9 F h e u
 w4:∀b,v.a_ b→F b
section
variable {F:aO→Prop} {h ab:af} {ds:List D} {ad:List V}
theorem b9.mod {dx M:aO→Prop} (m:Mod M h ab) (cO:∀b,F b→Old h b→¬M b∧dx b) (H:b9 F h ds ad):b9 dx ab ds ad:=by
 induction H with
 | nil=>exact .nil
 | i t bf=>exact .i bf
 | b t bf=>exact .b bf
 | s ag t bf=>exact .s ag bf
 | l aH ag aQ hu bh kids ax t qV pR=>exact .l aH ag (aQ.mod m fun b q=>(cO b (ax b q) (aQ.bR q)).1) hu bh qV (fun b q=>(cO b (ax b q) (aQ.bR q)).2) pR
theorem b9.ext (H:b9 F h ds ad) (e:Ext h ab):b9 F ab ds ad:=by
 induction H with
 | nil=>exact .nil
 | i t bf=>exact .i bf
 | b t bf=>exact .b bf
 | s ag t bf=>exact .s ag bf
 | l aH ag aQ hu bh kids ax t qV pR=>exact .l aH ag (aQ.ext e) hu bh qV ax pR
theorem b9.iX {dx:aO→Prop} (H:b9 F h ds ad) (w:∀b,F b→dx b):b9 dx h ds ad:=by
 induction H with
 | nil=>exact .nil
 | i t bf=>exact .i bf
 | b t bf=>exact .b bf
 | s ag t bf=>exact .s ag bf
 | l aH ag aQ hu bh kids ax t qV pR=>exact .l aH ag aQ hu bh qV (fun b q=>w b (ax b q)) pR
theorem b9.bR (H:b9 F h ds ad):b9 (fun b=>F b∧Old h b) h ds ad:=by
 induction H with
 | nil=>exact .nil
 | i t bf=>exact .i bf
 | b t bf=>exact .b bf
 | s ag t bf=>exact .s ag bf
 | l aH ag aQ hu bh kids ax t qV pR=>exact .l aH ag aQ hu bh qV (fun b q=>⟨ax b q,aQ.bR q⟩) pR
theorem b9.ed (H:b9 F h ds ad):ed ad=true:=by
 induction H with
 | nil=>rfl
 | i t bf=>simpa [Go.Proofs.YtkehcalakofigaaGreatDoor.aS.ed,V.one] using bf
 | b t bf=>simpa [Go.Proofs.YtkehcalakofigaaGreatDoor.aS.ed,V.one] using bf
 | s ag t bf=>simpa [Go.Proofs.YtkehcalakofigaaGreatDoor.aS.ed,V.one] using bf
 | l aH ag aQ hu bh kids ax t qV pR=>simp only [Go.Proofs.YtkehcalakofigaaGreatDoor.aS.ed,aQ.one.1,pR,Bool.and_self]
theorem b9.int {k:IntKind} {n:Int} (H:b9 F h (.i k n::ds) ad):∃us,ad=.int k n::us∧b9 F h ds us:=by
 cases H with
 | i t=>exact ⟨_,rfl,t⟩
theorem b9.str {x:List UInt8} (H:b9 F h (.s x::ds) ad):∃us,ad=.str x::us∧x.length≤top∧b9 F h ds us:=by
 cases H with
 | s ag t=>exact ⟨_,rfl,ag,t⟩
theorem b9.e8 {size:Nat} {es:List (List D)} (H:b9 F h (.l size es::ds) ad):∃v us,ad=v::us∧ch F h size es v∧b9 F h ds us:=by
 cases H with
 | l aH ag aQ hu bh kids ax t=>exact ⟨_,_,rfl,⟨aH,ag,⟨_,aQ,hu,bh,kids⟩,ax⟩,t⟩
theorem b9.no (H:b9 F h [] ad):ad=[]:=by cases H;rfl
end
theorem Lj {size:Nat}:∀(us:List (List V)) (i:Nat) (u:List V),(∀u ∈ us,u.length=size)→us[i]? =some u→(us.flatten.drop (i * size)).take size=u
 | [],i,u,_,h=>by simp at h
 | w::us,0,u,ai,h=>by
   simp only [List.getElem?_cons_zero,Option.some.injEq] at h
   subst h
   rw [Nat.zero_mul,List.drop_zero,List.flatten_cons,List.take_left' (ai _ (by simp))]
 | w::us,i+1,u,ai,h=>by
   rw [show (i+1) * size=size+i * size from by rw [Nat.succ_mul,Nat.add_comm],←List.drop_drop,List.flatten_cons,List.drop_left' (ai _ (by simp))]
   exact Lj us i u (fun u hu=>ai u (by simp [hu])) (by simpa using h)
theorem EX {size:Nat}:∀(us:List (List V)),(∀u ∈ us,u.length=size)→us.flatten.length=us.length * size
 | [],_=>by simp
 | w::us,ai=>by rw [List.flatten_cons,List.length_append,ai w (by simp),EX us (fun u hu=>ai u (by simp [hu])),List.length_cons,Nat.succ_mul,Nat.add_comm]
section
variable {F:aO→Prop} {h ab:af} {size:Nat} {es:List (List D)} {v:V}
theorem ch.cons {ds:List D} {ad:List V} (H:ch F h size es v) (t:b9 F h ds ad):b9 F h (.l size es::ds) (v::ad):=by
 obtain ⟨us,a,b,c,d⟩:=H.ex
 exact .l H.room H.le a b c d H.w4 t
theorem ch.ext (H:ch F h size es v) (e:Ext h ab):ch F ab size es v:=by
 obtain ⟨us,a,b,c,d⟩:=H.ex
 exact ⟨H.room,H.le,⟨us,a.ext e,b,c,fun i x u aq av=>(d i x u aq av).ext e⟩,H.w4⟩
theorem ch.mod {dx M:aO→Prop} (m:Mod M h ab) (cO:∀b,F b→Old h b→¬M b∧dx b) (H:ch F h size es v):ch dx ab size es v:=by
 obtain ⟨us,a,b,c,d⟩:=H.ex
 exact ⟨H.room,H.le,⟨us,a.mod m fun x q=>(cO x (H.w4 x q) (a.bR q)).1,b,c,fun i x u aq av=>(d i x u aq av).mod m cO⟩,fun x q=>(cO x (H.w4 x q) (a.bR q)).2⟩
theorem ch.iX {dx:aO→Prop} (H:ch F h size es v) (w:∀b,F b→dx b):ch dx h size es v:=by
 obtain ⟨us,a,b,c,d⟩:=H.ex
 exact ⟨H.room,H.le,⟨us,a,b,c,fun i x u aq av=>(d i x u aq av).iX w⟩,fun b q=>w b (H.w4 b q)⟩
theorem ch.len (H:ch F h size es v):jo v=some (.int .i64 es.length):=by
 obtain ⟨us,a,_⟩:=H.ex
 exact a.len
theorem ch.one (H:ch F h size es v):v.one=true∧v.cells=[v]∧v.eW=true:=by
 obtain ⟨us,a,_⟩:=H.ex
 exact a.one
theorem ch.nil (F:aO→Prop) (h:af) (size:Nat):ch F h size [] .b4:=⟨fun b o l c e=>(by cases e),Nat.zero_le _,⟨[],⟨by simp,rfl⟩,rfl,fun u hu=>(by cases hu),fun i e u q=>(by simp at q)⟩,fun b q=>q.elim⟩
theorem ch.at (H:ch F h size es v) {k:IntKind} {i:Nat} (az:i<es.length):
 ∃b off u,jj size v (.int k i)=some (.ptr b (off+i * size))∧b9 F h es[i] u∧u.length=size∧(∀ab,Ext h ab→lO size (ab.get b) (off+i * size)=some (.agg u))∧∀ab,Ext h ab→∀j,j<size→hd (ab.get b) (off+i * size+j)=u[j]? :=by
 obtain ⟨us,aa,ae,ai,aF⟩:=H.ex
 have Md:i<us.length:=by omega
 have hu:=List.getElem?_eq_getElem Md
 obtain ⟨b,off,aN,aY⟩:=aa.c0 (k:=k) az
 have ax:=Lj us i _ ai hu
 have ha:=EX us ai
 have hle:i * size+size≤us.length * size:=by
  have:=Nat.mul_le_mul_right size (show i+1≤us.length by omega)
  rw [Nat.succ_mul] at this
  exact this
 have MM:us[i].length=size:=ai _ (List.getElem_mem Md)
 refine ⟨b,off,us[i],aN,aF i _ _ (List.getElem?_eq_getElem az) hu,MM,fun ab e=>?_,fun ab e j bI=>?_⟩
 · rw [(aY.ext e).im (i:=i * size) (n:=size) (by omega),ax]
 · rw [Nat.add_assoc,(aY.ext e).fS (i:=i * size+j) (by omega)]
   have:((us.flatten.drop (i * size)).take size)[j]? =us[i][j]? :=by rw [ax]
   rw [List.getElem?_take_of_lt bI,List.getElem?_drop] at this
   rw [←this,List.getElem?_eq_getElem (by omega)]
end
end Go.Proofs.YtkehcalakofigaaGreatDoor.aS
namespace Go.Proofs.YtkehcalakofigaaGreatDoor.aS
variable [Lay]
open Go Go.RowKit
def Any (_:aO):Prop:=True
theorem Qj:∀{ms:List Nat},(∀(i k:Nat),ms[i]? =some k→1≤k)→ms.length≤ms.sum
 | [],_=>Nat.le_refl _
 | m::ms,h=>by
   have ba:=h 0 m rfl
   have:=Qj (ms:=ms) fun i k q=>h (i+1) k (by simpa using q)
   simp only [List.length_cons,List.sum_cons]
   omega
theorem Qi:∀{ms:List Nat} {i k:Nat},ms[i]? =some k→k≤ms.sum
 | [],_,_,h=>by simp at h
 | m::ms,0,k,h=>by simp only [List.getElem?_cons_zero,Option.some.injEq] at h;subst h;simp only [List.sum_cons];omega
 | m::ms,i+1,k,h=>by
   have:=Qi (ms:=ms) (i:=i) (k:=k) (by simpa using h)
   simp only [List.sum_cons];omega
structure Has (h:af) (n:Nat) (l:List V):Prop where
 lt:n<h.next
 g:h.get (ay n)=.bq l 0 false
theorem Has.ext {h ab:af} {n:Nat} {l:List V} (B:Has h n l) (e:Ext h ab):Has ab n l:=⟨Nat.lt_of_lt_of_le B.lt e.next,(e.get _ (fh B.lt)).trans B.g⟩
theorem gO (h:af) (l:List V):∃H,h.new (.bq l 0 false)=H∧Ext h H∧Has H h.next l:=⟨_,rfl,(Ext.refl h).new _,by rw [e7];omega,mV _⟩
theorem gZ (h:af) (z l:List V):∃H,(h.new (.bq z 0 false)).set (ay h.next) (.bq l 0 false)=H∧Ext h H∧Has H h.next l:=
 ⟨_,rfl,((Ext.refl h).new _).set (Nat.le_refl _) _,by rw [nx,e7];omega,by rw [di,if_pos rfl]⟩
theorem Has.set {h:af} {n m:Nat} {l:List V} (B:Has h n l) (hm:n≠m) (k:bW):Has (h.set (ay m) k) n l:=⟨by rw [nx];exact B.lt,by rw [di,if_neg (by rw [p0];exact fun q=>hm q.symm)];exact B.g⟩
theorem Has.put {h:af} {n:Nat} {l:List V} (B:Has h n l) (ec:List V):Has (h.set (ay n) (.bq ec 0 false)) n ec:=⟨by rw [nx];exact B.lt,by rw [di,if_pos rfl]⟩
theorem b9.Ht {F:aO→Prop} {h:af} {ds:List D} {ad:List V} (H:b9 F h ds ad):b9 (Old h) h ds ad:=H.bR.iX fun _ q=>q.2
theorem vn {h:af} {n:Nat} (aZ:h.next≤n):¬Old h (ay n):=fun q=>by unfold Old at q;rw [c4] at q;omega
theorem kF {i n:Nat} (h:i<n) (aZ:n≤4611686018427387904):IntKind.i64.wrap ((i:Int)+1)=((i+1:Nat):Int):=by rw [wrap_i64 (by omega) (by omega)];rfl
def encI (i:Int):List D:=[.i .i64 i]
theorem ch.M' {F:aO→Prop} {h:af} {l:List Int} {v:V} (H:ch F h 1 (l.map encI) v) {k:IntKind} {i:Nat} (az:i<l.length):
 ∃b off,jj 1 v (.int k i)=some (.ptr b (off+i * 1))∧∀ab,Ext h ab→hd (ab.get b) (off+i * 1)=some (.int .i64 l[i]):=by
 obtain ⟨b,off,u,aN,aY,cz,_,gq⟩:=H.at (k:=k) (i:=i) (by rw [List.length_map];exact az)
 rw [List.getElem_map,encI] at aY
 obtain ⟨us,rfl,jE⟩:=b9.int aY
 obtain rfl:=jE.no
 exact ⟨b,off,aN,fun ab e=>by simpa using gq ab e 0 (by omega)⟩
def iU (n:Nat) (b:aO):aO:=ay (n+b8 b)
mutual
def V.cF (n:Nat):V→V
 | .ptr b o=>.ptr (iU n b) o
 | .slice b o l c=>.slice (iU n b) o l c
 | .dV b o l c=>.dV (iU n b) o l c
 | .fO b o l c=>.fO (iU n b) o l c
 | .map b=>.map (iU n b)
 | .func f cs=>.func f (iT n cs)
 | .kz f cs=>.kz f (iT n cs)
 | .iface t v=>.iface t (v.cF n)
 | .agg cs=>.agg (iT n cs)
 | .tuple cs=>.tuple (iT n cs)
 | .bad=>.bad | .bool b=>.bool b | .int k i=>.int k i | .str s=>.str s | .jZ=>.jZ | .b4=>.b4 | .jr=>.jr | .iu=>.iu | .nilIface=>.nilIface
def iT (n:Nat):List V→List V
 | []=>[]
 | v::ad=>v.cF n::iT n ad
end
theorem P0 (n:Nat):∀l:List V,iT n l=l.map (V.cF n)
 | []=>by simp [iT]
 | v::l=>by rw [iT,P0 n l,List.map_cons]
def b1.cF (n:Nat) (m:b1):b1:=⟨m.k.cF n,m.v.cF n,m.born⟩
noncomputable def bW.cF (n:Nat):bW→bW
 | .cells m cs cv st=>.bq ((f_ cs 0 m).map (V.cF n)) cv st
 | .iter s pos=>.iter s pos
 | .mp es clock=>.mp (es.map (b1.cF n)) clock
 | .gx es=>.gx (es.map (b1.cF n))
 | _=>.dead
noncomputable def af.nV (h ao:af):Nat→af
 | 0=>h
 | k+1=>(h.nV ao k).new ((ao.get (ay k)).cF h.next)
theorem tS (h ao:af):∀k,(h.nV ao k).next=h.next+k
 | 0=>rfl
 | k+1=>by rw [af.nV,e7,tS h ao k];omega
theorem JD (h ao:af):∀k,Ext h (h.nV ao k)
 | 0=>Ext.refl h
 | k+1=>(JD h ao k).new _
theorem Dk (h ao:af):∀(k i:Nat),i<k→(h.nV ao k).get (ay (h.next+i))=(ao.get (ay i)).cF h.next
 | 0,i,az=>absurd az (by omega)
 | k+1,i,az=>by
   rw [af.nV,gE,tS]
   by_cases e:i=k
   · subst e;rw [if_pos rfl]
   · rw [if_neg (fun q=>e (by have:=fB q;omega)),Dk h ao k i (by omega)]
theorem JE (h ao:af) (b:aO):∀(k:Nat),(b8 b<h.next∨h.next+k≤b8 b)→(h.nV ao k).get b=h.get b
 | 0,_=>rfl
 | k+1,ag=>by
   rw [af.nV,gE,tS,if_neg (fun q=>by subst q;rw [c4] at ag;omega)]
   exact JE h ao b k (by omega)
noncomputable def af.app (h ao:af):af:=h.nV ao ao.next
noncomputable def l7 (h ao:af) (E bQ:Env):Env:=fun b=>if h.next≤b8 b∧b8 b<h.next+ao.next then bQ (ay (b8 b-h.next)) else E b
section
variable {au:Fr} {E bQ:Env} {h ao:af} {w bK:World}
theorem Dj (s:a1 au E h w):E.le (l7 h ao E bQ):=fun b p q=>by
 unfold l7
 rw [if_neg]
 · exact q
 · rintro ⟨aa,_⟩
   have:=s.fresh (b8 b) aa
   rw [s_] at this
   rw [this] at q;cases q
theorem o5 (s2:a1 ⟨w,fun _=>none⟩ bQ ao bK) {b:aO} {p:hn} (q:bQ b=some p):l7 h ao E bQ (iU h.next b)=some p:=by
 unfold l7 iU
 have aP:b8 b<ao.next:=by
  rcases Nat.lt_or_ge (b8 b) ao.next with av | av
  · exact av
  · have:=s2.fresh _ av
    rw [s_,q] at this;cases this
 rw [c4,if_pos ⟨by omega,by omega⟩,show h.next+b8 b-h.next=b8 b from by omega,s_]
 exact q
mutual
theorem p4 (s2:a1 ⟨w,fun _=>none⟩ bQ ao bK):∀(v:V) (x:Value),Rel bQ v x→Rel (l7 h ao E bQ) (v.cF h.next) x
 | .bad,x,q=>by simp only [V.cF,Rel]
 | .bool _,x,q=>by simpa only [V.cF,Rel] using q
 | .int _ _,x,q=>by simpa only [V.cF,Rel] using q
 | .str _,x,q=>by simpa only [V.cF,Rel] using q
 | .jZ,x,q=>by simpa only [V.cF,Rel] using q
 | .b4,x,q=>by simpa only [V.cF,Rel] using q
 | .jr,x,q=>by simpa only [V.cF,Rel] using q
 | .iu,x,q=>by simpa only [V.cF,Rel] using q
 | .nilIface,x,q=>by simpa only [V.cF,Rel] using q
 | .ptr b o,x,q=>by
   simp only [V.cF,Rel] at q ⊢
   obtain ⟨p,aq,av⟩:=q
   exact ⟨p,o5 s2 aq,av⟩
 | .slice b o l c,x,q=>by
   simp only [V.cF,Rel] at q ⊢
   obtain ⟨p,aq,av⟩:=q
   exact ⟨p,o5 s2 aq,av⟩
 | .dV b o l c,x,q=>by
   simp only [V.cF,Rel] at q ⊢
   obtain ⟨p,aq,av⟩:=q
   exact ⟨p,o5 s2 aq,av⟩
 | .fO b o l c,x,q=>by simpa only [V.cF,Rel] using q
 | .map b,x,q=>by
   simp only [V.cF,Rel] at q ⊢
   obtain ⟨p,aq,av⟩:=q
   exact ⟨p,o5 s2 aq,av⟩
 | .func f cs,x,q=>by
   simp only [V.cF,Rel] at q ⊢
   rcases q with ⟨aq,a,av,aK⟩ | ⟨aq,b,p,rfl,aK,bD⟩
   · exact .inl ⟨aq,a,av,yB s2 cs _ aK⟩
   · exact .inr ⟨aq,iU h.next b,p,by simp only [iT,V.cF],o5 s2 aK,bD⟩
 | .kz f cs,x,q=>by
   simp only [V.cF,Rel] at q ⊢
   obtain ⟨aq,a,av,aK⟩:=q
   exact ⟨aq,a,av,yB s2 cs _ aK⟩
 | .iface t v,x,q=>by
   simp only [V.cF,Rel] at q ⊢
   obtain ⟨y,aq,av⟩:=q
   exact ⟨y,aq,p4 s2 v y av⟩
 | .agg cs,x,q=>by
   simp only [V.cF,Rel] at q ⊢
   obtain ⟨a,aq,av⟩:=q
   exact ⟨a,aq,yB s2 cs _ av⟩
 | .tuple cs,x,q=>by
   simp only [V.cF,Rel] at q ⊢
   obtain ⟨a,aq,av⟩:=q
   exact ⟨a,aq,yB s2 cs _ av⟩
theorem yB (s2:a1 ⟨w,fun _=>none⟩ bQ ao bK):∀(v:List V) (x:List Value),a8 bQ v x→a8 (l7 h ao E bQ) (iT h.next v) x
 | [],x,q=>by simpa only [iT,a8] using q
 | v::ad,x,q=>by
   simp only [iT,a8] at q ⊢
   obtain ⟨y,b',aq,av,aK⟩:=q
   exact ⟨y,b',aq,p4 s2 v y av,yB s2 ad b' aK⟩
end
theorem N3 (s2:a1 ⟨w,fun _=>none⟩ bQ ao bK):∀(v:List b1) (x:List MapEntry),du bQ v x→du (l7 h ao E bQ) (v.map (b1.cF h.next)) x
 | [],x,q=>by simpa only [List.map_nil,du] using q
 | v::ad,x,q=>by
   simp only [List.map_cons,du,b1.cF] at q ⊢
   obtain ⟨y,b',aq,av,aK,bD,dr⟩:=q
   exact ⟨y,b',aq,p4 s2 _ _ av,p4 s2 _ _ aK,bD,N3 s2 ad b' dr⟩
theorem QA (s2:a1 ⟨w,fun _=>none⟩ bQ ao bK):∀(v:List b1) (x:List MapEntry),i_ bQ v x→i_ (l7 h ao E bQ) (v.map (b1.cF h.next)) x
 | [],x,q=>by simpa only [List.map_nil,i_] using q
 | v::ad,x,q=>by
   simp only [List.map_cons,i_,b1.cF] at q ⊢
   obtain ⟨y,b',aq,av,aK,dr⟩:=q
   exact ⟨y,b',aq,p4 s2 _ _ av,p4 s2 _ _ aK,QA s2 ad b' dr⟩
theorem Ax (cs:T V):∀(n off i:Nat),i<n→(f_ cs off n)[i]? =some (T.get .bad (ay (off+i)) cs)
 | 0,_,i,az=>absurd az (by omega)
 | n+1,off,0,_=>by simp [f_]
 | n+1,off,i+1,az=>by
   rw [f_,List.getElem?_cons_succ,Ax cs n (off+1) i (by omega)]
   congr 3
   omega
theorem SY (hw:au.w.heap.size≤w.heap.size) (s2:a1 ⟨w,fun _=>none⟩ bQ ao bK) {b:aO} {k:bW} (H:fl w.heap.size bQ bK b k):fl au.w.heap.size (l7 h ao E bQ) bK (iU h.next b) (k.cF h.next):=by
 cases k with
 | cells n cs cv st=>
   obtain ⟨aZ,p,c,el,bL,aa,ae,aF,bu,cd,fx,hr⟩:=H
   have ai:((f_ cs 0 n).map (V.cF h.next)).length=n:=by rw [List.length_map,sd]
   refine ⟨by rw [ai];exact aZ,p,c,el,bL,o5 s2 aa,Nat.le_trans hw ae,aF,bu,cd,fx,by rw [ai];exact hr.1,fun i y az a6=>?_⟩
   rw [ai] at az
   have:=w8 ((f_ cs 0 n).map (V.cF h.next)) 0 i .e
   rw [Nat.zero_add,if_pos (by rw [ai];exact az),List.getElem?_map,Ax cs n 0 i az] at this
   rw [this]
   simp only [Option.map_some,Option.getD_some,Nat.zero_add]
   exact p4 s2 _ _ (hr.2 i y az a6)
 | iter st pos=>
   obtain ⟨p,aa,ae,aF⟩:=H
   exact ⟨p,o5 s2 aa,Nat.le_trans hw ae,aF⟩
 | mp es clock=>
   obtain ⟨p,a,aa,ae,aF,bu⟩:=H
   exact ⟨p,a,o5 s2 aa,Nat.le_trans hw ae,aF,N3 s2 _ _ bu⟩
 | gx es=>
   obtain ⟨p,a,c,l,aa,ae,aF,bu,cd⟩:=H
   exact ⟨p,a,c,l,o5 s2 aa,Nat.le_trans hw ae,aF,QA s2 _ _ bu,cd⟩
 | _=>trivial
theorem BK {k:bW} {n:Nat} (H:(k.cF n).own=true):k.own=true:=by
 cases k<;>simp_all [bW.cF,bW.own]
theorem OG {B:Nat} {b:aO} {k:bW} {p:hn} (H:fl B E w b k) (aR:k.own=true) (q:E b=some p):B≤p.a_∧p.a_<w.heap.size:=by
 have lt:∀{o:Obj},w.heap[p.a_]? =some o→p.a_<w.heap.size:=fun {o} q=>by
  rcases Nat.lt_or_ge p.a_ w.heap.size with av | av
  · exact av
  · rw [Array.getElem?_eq_none av] at q;cases q
 cases k with
 | cells n cs cv st=>
   obtain ⟨_,p',c,el,bL,aa,ae,aF,_⟩:=H
   rw [q] at aa;cases aa
   exact ⟨ae,lt aF⟩
 | iter st pos=>
   obtain ⟨p',aa,ae,_,aF⟩:=H
   rw [q] at aa;cases aa
   exact ⟨ae,lt aF⟩
 | mp es clock=>
   obtain ⟨p',a,aa,ae,aF,_⟩:=H
   rw [q] at aa;cases aa
   exact ⟨ae,lt aF⟩
 | gx es=>
   obtain ⟨p',a,c,l,aa,ae,aF,_⟩:=H
   rw [q] at aa;cases aa
   exact ⟨ae,lt aF⟩
 | cY l=>
   obtain ⟨p',o,aa,ae,aF,_⟩:=H
   rw [q] at aa;cases aa
   exact ⟨ae,lt aF⟩
 | eu=>
   obtain ⟨p',aa,ae,aF⟩:=H
   rw [q] at aa;cases aa
   exact ⟨ae,lt aF⟩
 | hv src since seen last=>
   obtain ⟨p',m,a,aa,ae,_,aF,_⟩:=H
   rw [q] at aa;cases aa
   exact ⟨ae,lt aF⟩
 | dead=>cases aR
 | view n cs=>cases aR
theorem P2 (s:a1 au E h w) (s2:a1 ⟨w,fun _=>none⟩ bQ ao bK):a1 au (l7 h ao E bQ) (h.app ao) bK:=by
 have PV:=s.below s2.frame
 have hw:au.w.heap.size≤w.heap.size:=s.frame.size
 have cs:∀b,(h.next≤b8 b∧b8 b<h.next+ao.next∧∃i,i<ao.next∧b=iU h.next (ay i)∧(h.app ao).get b=(ao.get (ay i)).cF h.next∧l7 h ao E bQ b=bQ (ay i))∨
  ((b8 b<h.next∨h.next+ao.next≤b8 b)∧(h.app ao).get b=h.get b∧l7 h ao E bQ b=E b):=fun b=>by
  by_cases q:h.next≤b8 b∧b8 b<h.next+ao.next
  · refine .inl ⟨q.1,q.2,b8 b-h.next,by omega,?_,?_,if_pos q⟩
    · unfold iU
      rw [c4,show h.next + (b8 b-h.next)=b8 b from by omega,s_]
    · have:=Dk h ao ao.next (b8 b-h.next) (by omega)
      rw [show h.next + (b8 b-h.next)=b8 b from by omega,s_] at this
      exact this
  · exact .inr ⟨by omega,JE h ao b _ (by omega),if_neg q⟩
 have Ot:∀b p,(h.get b).own=true→E b=some p→p.a_<w.heap.size:=fun b p aR q=>by
  have ag:fl au.w.heap.size E w b (h.get b):=s.at q
  exact (OG ag aR q).2
 have N9:∀i p,(ao.get (ay i)).own=true→bQ (ay i)=some p→w.heap.size≤p.a_:=fun i p aR q=>(OG (s2.a_ _ rfl) aR q).1
 refine ⟨fun b ag=>?_,fun b k aA=>?_,fun b bC p p' c2 cL aN aY ah=>?_,fun i az=>?_,PV.frame,s.laid,fun b p n c st aG he=>?_⟩
 · rcases cs b with ⟨_,_,i,az,rfl,aN,aY⟩ | ⟨_,aN,aY⟩
   · rw [aN]
     exact SY hw s2 (s2.a_ _ rfl)
   · rw [aN]
     exact (PV.a_ b ag).mono (Dj s)
 · obtain ⟨aq,av,i,az,rfl⟩:=s.mA b k aA
   rcases cs (ay i) with ⟨bs,_⟩ | ⟨_,aN,aY⟩
   · rw [c4] at bs;omega
   · refine ⟨aN.trans aq,aY.trans av,i,?_,rfl⟩
     show i < (h.nV ao ao.next).next
     rw [tS];omega
 · rcases cs b with ⟨_,_,i,az,rfl,g1,g2⟩ | ⟨_,g1,g2⟩<;>rcases cs bC with ⟨_,_,j,bI,rfl,g3,g4⟩ | ⟨_,g3,g4⟩
   · rw [g1] at c2;rw [g3] at cL;rw [g2] at aN;rw [g4] at aY
     rw [s2.inj _ _ _ _ (BK c2) (BK cL) aN aY ah]
   · rw [g1] at c2;rw [g3] at cL;rw [g2] at aN;rw [g4] at aY
     have a:=N9 _ _ (BK c2) aN
     have b:=Ot _ _ cL aY
     omega
   · rw [g1] at c2;rw [g3] at cL;rw [g2] at aN;rw [g4] at aY
     have a:=N9 _ _ (BK cL) aY
     have b:=Ot _ _ c2 aN
     omega
   · rw [g1] at c2;rw [g3] at cL;rw [g2] at aN;rw [g4] at aY
     exact s.inj _ _ _ _ c2 cL aN aY ah
 · have aZ:(h.app ao).next=h.next+ao.next:=tS h ao ao.next
   rw [aZ] at az
   rcases cs (ay i) with ⟨bs,bN,_⟩ | ⟨_,aN,aY⟩
   · rw [c4] at bN;omega
   · rw [aY];exact s.fresh i (by omega)
 · rcases cs b with ⟨_,_,i,az,rfl,g1,g2⟩ | ⟨_,g1,g2⟩
   · rw [g2] at he
     cases aA:ao.get (ay i) with
     | cells gT eM ahP aiK=>
       rw [g1,aA] at aG
       simp only [bW.cF,bW.bq,bW.cells.injEq] at aG
       obtain ⟨_,_,q,_⟩:=aG
       subst q
       exact s2.base _ _ _ _ _ aA he
     | _=>rw [g1,aA] at aG;simp [bW.cF] at aG
   · rw [g1] at aG;rw [g2] at he
     exact s.base _ _ _ _ _ aG he
end
theorem VV {C:Ctx} (cO:C.P.follows .mixedOrders=true) (bx:dU C.P) (fy:mN C) {n:Nat} {f:FuncId} {ao:af} {v:V} (ax:Nat.beq f cR=false) (ak:C.ext f=none) (gG:∃fn,C.P.funcs[f]? =some fn∧fn.body.isSome=true)
 (he:pd C n f [] af.empty=.val v ao) (h:af):eS C.P f [] h (v.cF h.next) (h.app ao):=by
 refine ⟨fun e=>by subst e;simp at ax,.inl ⟨gG,fun au E w xs ai s=>?_⟩⟩
 simp only [a8] at ai
 subst ai
 obtain ⟨_,h0⟩:=Ep cO bx fy ax ak he (au:=⟨w,fun _=>none⟩) (E:=fun _=>none) (w:=w) (xs:=[]) rfl (Cf w (Lay.e5 s.laid s.frame))
 refine h0.mono fun e aj aC=>?_
 obtain ⟨ar,x,rfl,_,av,aK⟩:=aC
 exact ⟨_,x,rfl,Dj s,p4 aK _ _ av,P2 s aK⟩
theorem Sn (h ao:af):Ext h (h.app ao):=JD h ao _
theorem JG (h ao:af) {i:Nat} (az:i<ao.next):(h.app ao).get (ay (h.next+i))=(ao.get (ay i)).cF h.next:=Dk h ao _ i az
theorem JH (h ao:af):(h.app ao).next=h.next+ao.next:=tS h ao _
end Go.Proofs.YtkehcalakofigaaGreatDoor.aS
namespace Go.Proofs.YtkehcalakofigaaGreatDoor.aS
variable [Lay]
open Go Go.RowKit
def GO:IntKind→IntKind→Bool
 | .i8,.i8 | .i16,.i16 | .i32,.i32 | .i64,.i64 | .u8,.u8 | .u16,.u16 | .u32,.u32 | .u64,.u64=>true
 | _,_=>false
theorem Nh {a b:IntKind} (h:GO a b=true):a=b:=by cases a<;>cases b<;>first | rfl | cases h
def qT:Int→Int→Bool
 | .ofNat a,.ofNat b=>Nat.beq a b
 | .negSucc a,.negSucc b=>Nat.beq a b
 | _,_=>false
theorem A4 {a b:Int} (h:qT a b=true):a=b:=by
 cases a<;>cases b<;>simp only [qT] at h<;>first | (rw [Nat.eq_of_beq_eq_true h]) | (cases h)
def JR:Bool→Bool→Bool
 | true,true | false,false=>true
 | _,_=>false
theorem SH {a b:Bool} (h:JR a b=true):a=b:=by cases a<;>cases b<;>first | rfl | cases h
def Ce:List UInt8→List UInt8→Bool
 | [],[]=>true
 | a::tW,b::eg=>Nat.beq a.toNat b.toNat&&Ce tW eg
 | _,_=>false
theorem PS:∀{a b:List UInt8},Ce a b=true→a=b
 | [],[],_=>rfl
 | [],_::_,h=>by cases h
 | _::_,[],h=>by cases h
 | a::tW,b::eg,h=>by
   simp only [Ce,Bool.and_eq_true] at h
   rw [PS h.2,UInt8.toNat_inj.1 (Nat.eq_of_beq_eq_true h.1)]
def Bz (kf:List D→List V→Bool) (size:Nat):List (List D)→List V→Bool
 | [],jF=>(match jF with | []=>true | _=>false)
 | e::es,jF=>Nat.beq (jF.take size).length size&&kf e (jF.take size)&&Bz kf size es (jF.drop size)
noncomputable def Hr (ao:af) (kf:List D→List V→Bool) (size:Nat) (es:List (List D)):V→Bool
 | .b4=>(match es with | []=>true | _=>false)
 | .slice b off len cap=>Nat.beq len es.length&&Nat.ble len cap&&Nat.ble len top&&Nat.blt (b8 b) ao.next&&(match ao.get b with
   | .cells n cs _ _=>Nat.ble (off+len * size) n&&Bz kf size es (f_ cs off (len * size))
   | _=>false)
 | _=>false
noncomputable def yg (ao:af):Nat→List D→List V→Bool
 | 0,_,_=>false
 | f+1,ds,ad=>match ds with
   | []=>(match ad with | []=>true | _=>false)
   | d::ds=>match ad with
     | []=>false
     | v::ad=>(match d with
       | .i k n=>(match v with | .int bl gT=>GO k bl&&qT n gT | _=>false)
       | .b x=>(match v with | .bool y=>JR x y | _=>false)
       | .s x=>(match v with | .str y=>Ce x y&&Nat.ble x.length top | _=>false)
       | .l size es=>Hr ao (yg ao f) size es v)&&yg ao f ds ad
section
variable {h ao:af}
def q6 (h ao:af) (b:aO):Prop:=h.next≤b8 b∧b8 b<h.next+ao.next
theorem On {kf:List D→List V→Bool} {size:Nat}:∀{es:List (List D)} {jF:List V},Bz kf size es jF=true→
 ∃us:List (List V),jF=us.flatten∧us.length=es.length∧(∀u ∈ us,u.length=size)∧∀(i:Nat) (e:List D) (u:List V),es[i]? =some e→us[i]? =some u→kf e u=true
 | [],jF,H=>by
   cases jF with
   | nil=>exact ⟨[],rfl,rfl,fun u q=>(by cases q),fun i e u q=>(by simp at q)⟩
   | cons _ _=>cases H
 | e::es,jF,H=>by
   simp only [Bz,Bool.and_eq_true] at H
   obtain ⟨us,aq,av,aK,bD⟩:=On H.2
   refine ⟨jF.take size::us,by rw [List.flatten_cons,←aq,List.take_append_drop],by simp [av],fun u hu=>?_,fun i x u aN aY=>?_⟩
   · rcases List.mem_cons.1 hu with rfl | hu
     · exact Nat.eq_of_beq_eq_true H.1.1
     · exact aK u hu
   · cases i with
     | zero=>
       simp only [List.getElem?_cons_zero,Option.some.injEq] at aN aY
       subst aN aY
       exact H.1.2
     | succ i=>exact bD i x u (by simpa using aN) (by simpa using aY)
theorem XA (cs:T V) (n off m:Nat) (hm:off+m≤n):((f_ cs 0 n).drop off).take m=f_ cs off m:=by
 apply List.ext_getElem?
 intro i
 by_cases az:i<m
 · rw [List.getElem?_take_of_lt az,List.getElem?_drop,Ax cs n 0 _ (by omega),Ax cs m off i az,Nat.zero_add]
 · rw [List.getElem?_eq_none (by rw [List.length_take,List.length_drop,sd];omega),List.getElem?_eq_none (by rw [sd];omega)]
theorem ad5 {kf:List D→List V→Bool} (aA:∀ds ad,kf ds ad=true→b9 (q6 h ao) (h.app ao) ds (iT h.next ad)) {size:Nat} {es:List (List D)} {v:V} (H:Hr ao kf size es v=true):
 ch (q6 h ao) (h.app ao) size es (v.cF h.next):=by
 cases v<;>simp only [Hr] at H<;>try (cases H;done)
 case b4=>
  cases es with
  | nil=>exact ch.nil _ _ _
  | cons _ _=>cases H
 case slice b off len cap=>
  simp only [Bool.and_eq_true] at H
  obtain ⟨⟨⟨⟨aa,ae⟩,aF⟩,bu⟩,cd⟩:=H
  have aa:=Nat.eq_of_beq_eq_true aa
  have ae:=Nat.le_of_ble_eq_true ae
  have aF:=Nat.le_of_ble_eq_true aF
  have bu:b8 b<ao.next:=Nat.le_of_ble_eq_true bu
  cases aG:ao.get b<;>rw [aG] at cd<;>simp only at cd<;>try (cases cd;done)
  rename_i n cs cv st
  simp only [Bool.and_eq_true] at cd
  have fx:=Nat.le_of_ble_eq_true cd.1
  obtain ⟨us,aq,av,aK,bD⟩:=On cd.2
  subst aa
  have pz:(h.app ao).get (iU h.next b)=.bq ((f_ cs 0 n).map (V.cF h.next)) cv st:=by
   have:=JG h ao bu
   rw [s_,aG] at this
   exact this
  have ha:(us.map (List.map (V.cF h.next))).flatten=us.flatten.map (V.cF h.next):=by rw [List.map_flatten]
  have hlen:us.flatten.length=es.length * size:=by rw [←aq,sd]
  refine ⟨fun bC o l c e=>(by cases e;exact ae),aF,⟨us.map (List.map (V.cF h.next)),⟨by rw [ha,List.length_map,hlen],rfl,?_,_,.inr ⟨cv,st,pz⟩,?_,?_⟩,by rw [List.length_map,av],fun u hu=>?_,fun i e u aN aY=>?_⟩,fun bC q=>?_⟩
  · unfold Old iU
    rw [c4,JH];omega
  · rw [ha,List.length_map,List.length_map,sd,hlen];exact fx
  · rw [ha,List.length_map,hlen,←List.map_drop,←List.map_take,XA cs n off _ fx,aq]
  · obtain ⟨fD,fL,rfl⟩:=List.mem_map.1 hu
    rw [List.length_map];exact aK fD fL
  · rw [List.getElem?_map] at aY
    cases aC:us[i]? with
    | none=>rw [aC] at aY;cases aY
    | some fD=>
      rw [aC] at aY
      simp only [Option.map_some,Option.some.injEq] at aY
      subst aY
      rw [←P0]
      exact aA _ _ (bD i e fD aN aC)
  · simp only [V.cF,V.a_] at q
    subst q
    unfold q6 iU
    rw [c4]
    exact ⟨by omega,by omega⟩
theorem Hp:∀{f:Nat} {ds:List D} {ad:List V},yg ao f ds ad=true→b9 (q6 h ao) (h.app ao) ds (iT h.next ad)
 | 0,_,_,H=>by cases H
 | f+1,ds,ad,H=>by
   cases ds with
   | nil=>
     cases ad with
     | nil=>exact .nil
     | cons _ _=>cases H
   | cons d ds=>
     cases ad with
     | nil=>cases H
     | cons v ad=>
       simp only [yg,Bool.and_eq_true] at H
       have t:=Hp (f:=f) H.2
       have H1:=H.1
       rw [iT]
       cases d with
       | i k n=>
         cases v<;>simp only at H1<;>try (cases H1;done)
         simp only [Bool.and_eq_true] at H1
         rw [Nh H1.1,A4 H1.2]
         simp only [V.cF]
         exact .i t
       | b x=>
         cases v<;>simp only at H1<;>try (cases H1;done)
         rw [SH H1]
         simp only [V.cF]
         exact .b t
       | s x=>
         cases v<;>simp only at H1<;>try (cases H1;done)
         simp only [Bool.and_eq_true] at H1
         rw [←PS H1.1]
         simp only [V.cF]
         exact .s (Nat.le_of_ble_eq_true H1.2) t
       | l size es=>exact (ad5 (fun ds ad q=>Hp (f:=f) q) H1).cons t
end
end Go.Proofs.YtkehcalakofigaaGreatDoor.aS
namespace Go.Proofs.YtkehcalakofigaaGreatDoor.aS
variable [Lay]
open Go Go.RowKit
def lg (k:Int):List (Int × List D)→Option (List D)
 | []=>none
 | (n,d)::l=>if k=n then some d else lg k l
inductive j6 (F:aO→Prop) (h:af):List (Int × List D)→List b1→Prop
 | nil:j6 F h [] []
 | cons {n:Int} {ds:List D} {y:V} {born:Nat} {bB:List (Int × List D)} {es:List b1} (aX:b9 F h ds y.cells) (t:j6 F h bB es):j6 F h ((n,ds)::bB) (⟨.int .i64 n,y,born⟩::es)
structure l2 (F:aO→Prop) (h:af) (bB:List (Int × List D)) (v:V):Prop where
 ex:∃b es,v=.map b∧Old h b∧((∃clock,h.get b=.mp es clock)∨h.get b=.gx es∧(bB.map Prod.fst).Nodup)∧j6 F h bB es∧F b
section
variable {F:aO→Prop} {h ab:af} {bB:List (Int × List D)} {es:List b1} {v:V}
theorem j6.ext (H:j6 F h bB es) (e:Ext h ab):j6 F ab bB es:=by
 induction H with
 | nil=>exact .nil
 | cons aX t bf=>exact .cons (aX.ext e) bf
theorem l2.ext (H:l2 F h bB v) (e:Ext h ab):l2 F ab bB v:=by
 obtain ⟨b,es,aq,av,aK,bD,dr⟩:=H.ex
 exact ⟨b,es,aq,e.bR av,by rw [e.get b av];exact aK,bD.ext e,dr⟩
theorem PM (k n:Int):ki.run (.int .i64 k) (.int .i64 n)=some (decide (k=n)):=by
 simp only [ki,V.dJ,n0,cond_true,EN]
theorem j6.jd (H:j6 F h bB es) (k:Int):(lg k bB=none∧jd ki (.int .i64 k) es=some none)∨∃ds y,lg k bB=some ds∧b9 F h ds y.cells∧Go.Proofs.YtkehcalakofigaaGreatDoor.aS.jd ki (.int .i64 k) es=some (some y):=by
 induction H with
 | nil=>exact .inl ⟨rfl,rfl⟩
 | @cons n ds y born bB es aX t bf=>
   simp only [lg,Go.Proofs.YtkehcalakofigaaGreatDoor.aS.jd,PM]
   by_cases q:k=n
   · subst q
     simp only [if_true,decide_true,cond_true]
     exact .inr ⟨ds,y,rfl,aX,rfl⟩
   · simp only [q,if_false,decide_false,cond_false]
     exact bf
theorem NW {k:Int} {ds:List D}:∀{bB:List (Int × List D)},lg k bB=some ds→k ∈ bB.map Prod.fst
 | [],h=>by cases h
 | (n,d)::l,h=>by
   simp only [lg] at h
   by_cases q:k=n
   · subst q;simp
   · rw [if_neg q] at h
     simp only [List.map_cons,List.mem_cons]
     exact .inr (NW h)
theorem j6.kT (H:j6 F h bB es) (aZ:(bB.map Prod.fst).Nodup) (k:Int):(lg k bB=none∧kT ki (.int .i64 k) es=some none)∨∃ds y,lg k bB=some ds∧b9 F h ds y.cells∧Go.Proofs.YtkehcalakofigaaGreatDoor.aS.kT ki (.int .i64 k) es=some (some y):=by
 induction H with
 | nil=>exact .inl ⟨rfl,rfl⟩
 | @cons n ds y born bB es aX t bf=>
   simp only [List.map_cons,List.nodup_cons] at aZ
   have bf:=bf aZ.2
   simp only [lg,Go.Proofs.YtkehcalakofigaaGreatDoor.aS.kT,PM]
   by_cases q:k=n
   · subst q
     rcases bf with ⟨_,e⟩ | ⟨_,_,e,_⟩
     · simp only [e,if_true,decide_true,cond_true]
       exact .inr ⟨ds,y,rfl,aX,rfl⟩
     · exact absurd (NW e) aZ.1
   · rcases bf with ⟨aN,e⟩ | ⟨ph,ql,aN,aY,e⟩
     · simp only [e,q,if_false,decide_false,cond_false]
       exact .inl ⟨aN,trivial⟩
     · simp only [e,q,if_false,decide_false,cond_false]
       exact .inr ⟨ph,ql,aN,aY,rfl⟩
theorem l2.look (H:l2 F h bB v) (k:Int) (z:V) (ok:Bool):(lg k bB=none∧iq ki z ok h v (.int .i64 k)=some (bif ok then .tuple [z,.bool false] else z))∨
 ∃ds y,lg k bB=some ds∧b9 F h ds y.cells∧iq ki z ok h v (.int .i64 k)=some (bif ok then .tuple [y,.bool true] else y):=by
 obtain ⟨b,es,rfl,_,aK,bD,_⟩:=H.ex
 rcases aK with ⟨clock,aK⟩ | ⟨aK,aZ⟩
 · rcases bD.jd k with ⟨aN,e⟩ | ⟨ds,y,aN,aY,e⟩
   · exact .inl ⟨aN,by simp only [iq,aK,nw,oE,bW.iw,e]⟩
   · exact .inr ⟨ds,y,aN,aY,by simp only [iq,aK,nw,oE,bW.iw,e]⟩
 · rcases bD.kT aZ k with ⟨aN,e⟩ | ⟨ds,y,aN,aY,e⟩
   · exact .inl ⟨aN,by simp only [iq,aK,e]⟩
   · exact .inr ⟨ds,y,aN,aY,by simp only [iq,aK,e]⟩
end
noncomputable def yh (ao:af) (f:Nat):List (Int × List D)→List b1→Bool
 | [],es=>(match es with | []=>true | _=>false)
 | (n,ds)::bB,es=>(match es with
   | []=>false
   | m::es=>(match m.k with | .int k i=>GO k .i64&&qT i n | _=>false)&&yg ao f ds m.v.cells&&yh ao f bB es)
def Bs:List Int→Bool
 | []=>true
 | n::l=>(l.all fun m=>!qT n m)&&Bs l
noncomputable def BA (ao:af) (f:Nat) (bB:List (Int × List D)):V→Bool
 | .map b=>Nat.blt (b8 b) ao.next&&Bs (bB.map Prod.fst)&&(match ao.get b with
   | .mp es _=>yh ao f bB es
   | .gx es=>yh ao f bB es
   | _=>false)
 | _=>false
theorem Z_:∀n:Int,qT n n=true
 | .ofNat a=>Nat.beq_refl a
 | .negSucc a=>Nat.beq_refl a
theorem Oa:∀{l:List Int},Bs l=true→l.Nodup
 | [],_=>List.nodup_nil
 | n::l,h=>by
   simp only [Bs,Bool.and_eq_true] at h
   refine List.nodup_cons.2 ⟨fun q=>?_,Oa h.2⟩
   have:=List.all_eq_true.1 h.1 n q
   rw [Z_] at this
   cases this
theorem VM (n:Nat) (v:V):(v.cF n).cells=iT n v.cells:=by
 cases v<;>simp only [V.cF,V.cells,iT]
section
variable {h ao:af}
theorem Hq {f:Nat}:∀{bB:List (Int × List D)} {es:List b1},yh ao f bB es=true→j6 (q6 h ao) (h.app ao) bB (es.map (b1.cF h.next))
 | [],es,H=>by
   cases es with
   | nil=>exact .nil
   | cons _ _=>cases H
 | (n,ds)::bB,es,H=>by
   cases es with
   | nil=>cases H
   | cons m es=>
     simp only [yh,Bool.and_eq_true] at H
     obtain ⟨⟨aa,ae⟩,aF⟩:=H
     obtain ⟨mk,dp,born⟩:=m
     cases mk<;>simp only at aa<;>try (cases aa;done)
     simp only [Bool.and_eq_true] at aa
     rw [Nh aa.1,A4 aa.2,List.map_cons]
     simp only [b1.cF,V.cF]
     exact .cons (by rw [VM];exact Hp ae) (Hq aF)
theorem ad4 {f:Nat} {bB:List (Int × List D)} {v:V} (H:BA ao f bB v=true):l2 (q6 h ao) (h.app ao) bB (v.cF h.next):=by
 cases v<;>simp only [BA] at H<;>try (cases H;done)
 rename_i b
 simp only [Bool.and_eq_true] at H
 obtain ⟨⟨aa,ae⟩,aF⟩:=H
 have aa:b8 b<ao.next:=Nat.le_of_ble_eq_true aa
 have aG:=JG h ao aa
 rw [s_] at aG
 have ag:q6 h ao (iU h.next b):=by unfold q6 iU;rw [c4];exact ⟨by omega,by omega⟩
 have aR:Old (h.app ao) (iU h.next b):=by unfold Old iU;rw [c4,JH];omega
 cases aA:ao.get b<;>rw [aA] at aF<;>simp only at aF<;>try (cases aF;done)
 · rw [aA] at aG
   exact ⟨_,_,rfl,aR,.inl ⟨_,aG⟩,Hq aF,ag⟩
 · rw [aA] at aG
   exact ⟨_,_,rfl,aR,.inr ⟨aG,Oa ae⟩,Hq aF,ag⟩
end
end Go.Proofs.YtkehcalakofigaaGreatDoor.aS
namespace Go.Proofs.YtkehcalakofigaaGreatDoor.aS
variable [Lay]
open Go Go.RowKit
theorem j6.iX {F dx:aO→Prop} {h:af} {bB:List (Int × List D)} {es:List b1} (H:j6 F h bB es) (w:∀b,F b→dx b):j6 dx h bB es:=by
 induction H with
 | nil=>exact .nil
 | cons aX t bf=>exact .cons (aX.iX w) bf
theorem l2.iX {F dx:aO→Prop} {h:af} {bB:List (Int × List D)} {v:V} (H:l2 F h bB v) (w:∀b,F b→dx b):l2 dx h bB v:=by
 obtain ⟨b,es,aq,av,aK,bD,dr⟩:=H.ex
 exact ⟨b,es,aq,av,aK,bD.iX w,w b dr⟩
noncomputable def BB (C:Ctx) (n:Nat) (f:FuncId) (kf:af→V→Bool):Bool:=match pd C n f [] af.empty with
 | .val v ao=>kf ao v
 | _=>false
def Jj (h:af) (b:aO):Prop:=h.next≤b8 b
section
variable {C:Ctx} (cO:C.P.follows .mixedOrders=true) (bx:dU C.P) (fy:mN C) {n:Nat} {f:FuncId} (ax:Nat.beq f cR=false) (ak:C.ext f=none) (gG:∃fn,C.P.funcs[f]? =some fn∧fn.body.isSome=true)
include cO bx fy ax ak gG
theorem VU {kf:af→V→Bool} (H:BB C n f kf=true) (h:af):∃v ao,kf ao v=true∧eS C.P f [] h (v.cF h.next) (h.app ao):=by
 unfold BB at H
 cases ao:pd C n f [] af.empty with
 | fail=>rw [ao] at H;cases H
 | ck _ _=>rw [ao] at H;cases H
 | val v a'=>
   rw [ao] at H
   exact ⟨v,a',H,VV cO bx fy ax ak gG ao h⟩
theorem VT {m:Nat} {bB:List (Int × List D)} (H:BB C n f (fun ao v=>BA ao m bB v)=true) (h:af):bM C.P f [] h fun x ab=>Ext h ab∧l2 (Jj h) ab bB x:=by
 obtain ⟨v,ao,q,c⟩:=VU cO bx fy ax ak gG H h
 exact ⟨_,_,c,Sn _ _,(ad4 q).iX fun b q=>q.1⟩
end
end Go.Proofs.YtkehcalakofigaaGreatDoor.aS
