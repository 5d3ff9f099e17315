/- The abstract machine and its walks (a verified interpreter of the model's code: plain definitions and lemmas, no condition). Printed by a program from longer texts: names made short. -/
import Derived.Test.YtkehcalakofigaaGreatDoorM4
import Derived.ChangeBears
import Derived.Carry
import Derived.OpenShut
import Derived.ChangeSame
import Derived.Test.YtkehcalakofigaaGreatDoorM3
import Derived.Handed
import Derived.HandedShaped
set_option linter.unusedSectionVars false
set_option linter.unusedSimpArgs false
set_option linter.unusedVariables false
namespace Go.Proofs.YtkehcalakofigaaGreatDoor.aY
variable [Lay]
open Go Go.RowKit
section
variable (P:Program)
def uj:List Field→Nat→Option Nat
 | [],o=>some o
 | f::bP,o=>if f.offset=o then uj bP (o+P.cellsOf f.type) else none
def r4:Bool:=(List.range P.types.size).all fun t=>match P.underlying t with
 | some (.struct bP)=>decide (uj P bP.toList 0=some (P.cellsOf t))
 | _=>true
def dh (h:ae):Nat→Nat→TypeId→List V→Prop
 | 0,_,_,_=>False
 | n+1,m,t,ab=>match P.underlying t with
   | some .bool=>∃b,ab=[.bool b]
   | some (.int k)=>∃i,ab=[.int k i]∧(Lit.int k i).wf=true
   | some .string=>∃s:List UInt8,ab=[.str s]∧s.length+1≤m
   | some (.slice e)=>1≤m∧(ab=[.cq]∨(∃b i j k,ab=[.fA b i j k])∨P.cellsOf e=0∨
      ∃b len cap,ab=[.slice b 0 len cap]∧0<len∧len≤cap∧Old h b∧∃us,Rd h b us∧us.length=len * P.cellsOf e∧∃ms:List Nat,ms.length=len∧ms.sum+1≤m∧
       ∀(i k:Nat),ms[i]? =some k→1≤k∧dh h n k e ((us.drop (i * P.cellsOf e)).take (P.cellsOf e)))
   | some (.struct bP)=>ab.length=P.cellsOf t∧∃ms:List Nat,ms.length=bP.toList.length∧ms.sum+1≤m∧∀(i:Nat) (f:Field) (k:Nat),bP.toList[i]? =some f→ms[i]? =some k→1≤k∧dh h n k f.type ((ab.drop f.offset).take (P.cellsOf f.type))
   | some (.pointer e)=>1≤m∧(ab=[.jn]∨P.cellsOf e=0∨∃b,ab=[.ptr b 0]∧Old h b∧∃us,Rd h b us∧us.length=P.cellsOf e∧∃k,k+1≤m∧dh h n k e us)
   | some (.map _ _)=>ab=[.iK]∨ab=[.bad]
   | some (.interface _)=>ab=[.nilIface]∨ab=[.bad]
   | _=>True
end
theorem dh.ext {P:Program} {h aa:ae} (e:Ext h aa):∀(n m:Nat) (t:TypeId) (ab:List V),dh P h n m t ab→dh P aa n m t ab
 | 0,_,_,_,H=>H
 | n+1,m,t,ab,H=>by
   unfold dh at H ⊢
   split at H<;>try exact H
   · refine ⟨H.1,?_⟩
     rcases H.2 with H | H | H | ⟨b,len,cap,U,ad,aI,ct,us,b6,cz,ms,fx,fG,jh⟩
     · exact .inl H
     · exact .inr (.inl H)
     · exact .inr (.inr (.inl H))
     · exact .inr (.inr (.inr ⟨b,len,cap,U,ad,aI,e.b2 ct,us,e.rd ct b6,cz,ms,fx,fG,fun i k az=>⟨(jh i k az).1,dh.ext e n _ _ _ (jh i k az).2⟩⟩))
   · obtain ⟨U,ms,ad,aI,bq⟩:=H
     exact ⟨U,ms,ad,aI,fun i f k ax az=>⟨(bq i f k ax az).1,dh.ext e n _ _ _ (bq i f k ax az).2⟩⟩
   · refine ⟨H.1,?_⟩
     rcases H.2 with H | H | ⟨b,U,ct,us,b6,cz,k,fx,fG⟩
     · exact .inl H
     · exact .inr (.inl H)
     · exact .inr (.inr ⟨b,U,e.b2 ct,us,e.rd ct b6,cz,k,fx,dh.ext e n _ _ _ fG⟩)
mutual
def eI {H:Type}:DataW H→Nat
 | .lit (.string bytes)=>bytes.length+1
 | .lit _=>1
 | .nil=>1
 | .ptr d=>eI d+1
 | .slice elems spare=>jw elems+jw spare+1
 | .agg parts=>jw parts+1
 | .iface _ d=>eI d+1
 | .map entries=>xF entries+1
 | .held _=>1
def jw {H:Type}:List (DataW H)→Nat
 | []=>0
 | d::r=>eI d+jw r
def xF {H:Type}:List (Lit × DataW H)→Nat
 | []=>0
 | x::r=>Bc x+xF r
def Bc {H:Type}:Lit × DataW H→Nat
 | (.string bytes,d)=>bytes.length+eI d+1
 | (_,d)=>eI d+1
end
theorem nX {H:Type} (d:DataW H):1≤eI d:=by
 cases d with
 | lit l=>cases l<;>simp [eI]
 | _=>simp [eI]
theorem Bb {H:Type}:∀l:List (DataW H),jw l=(l.map eI).sum
 | []=>by simp [jw]
 | d::r=>by simp only [jw,List.map_cons,List.sum_cons,Bb r]
theorem xL {w:World} {base:Nat} {a:Addr} {n:Nat} {l:List Value} (h:w.cells? base a n=some l):l.length=n∧∀i,i<n→w.cell? (a.add i)=l[i]? :=by
 unfold World.cells? at h
 split at h
 · exact ⟨by simpa using mapM_some_length h,fun i aC=>mapM_some_get h i i (by simp [aC])⟩
 · cases h
theorem LK {E ar:Env} (he:E.le ar) {ab:List V} {l:List Value} (H:aZ E ab l):aZ ar ab l:=aZ.mono he ab l H
section
variable {H:Type} {enc:TypeId × Value→H} {P:Program} {W:World} {base:Nat} {sp:Nat→Bool} {held:Bool}
def Lays (P:Program) (W:World) (n m:Nat) (t:TypeId) (cs:List Value):Prop:=
 ∀(E:Env) (h:ae),aW ⟨W,fun _=>none⟩ E h W→∃ar aa ab,E.le ar∧Ext h aa∧aW ⟨W,fun _=>none⟩ ar aa W∧aZ ar ab cs∧ab.length=cs.length∧dh P aa n m t ab
theorem J6 (n size:Nat) (e:TypeId):∀(pieces:List (List Value)) (ms:List Nat),ms.length=pieces.length→(∀(i:Nat) (l:List Value) (k:Nat),pieces[i]? =some l→ms[i]? =some k→l.length=size∧Lays P W n k e l)→
 ∀(E:Env) (h:ae),aW ⟨W,fun _=>none⟩ E h W→∃ar aa us,E.le ar∧Ext h aa∧aW ⟨W,fun _=>none⟩ ar aa W∧aZ ar us pieces.flatten∧us.length=pieces.length * size∧
  ∀(i k:Nat),ms[i]? =some k→dh P aa n k e ((us.drop (i * size)).take size)
 | [],[],_,_,E,h,s=>⟨E,h,[],fun _ _ q=>q,Ext.refl h,s,rfl,by simp,fun i k aC=>by simp at aC⟩
 | [],_::_,aj,_,_,_,_=>by simp at aj
 | _::_,[],aj,_,_,_,_=>by simp at aj
 | l::ls,m::ms,iZ,ag,E,h,s=>by
   obtain ⟨aj,H⟩:=ag 0 l m rfl rfl
   obtain ⟨eU,U,ab,bN,a2,a3,a4,a5,iU⟩:=H E h s
   obtain ⟨bM,ad,us,bJ,cg,h0,j4,j5,qD⟩:=J6 n size e ls ms (by simpa using iZ) (fun i l k ai ay=>ag (i+1) l k (by simpa using ai) (by simpa using ay)) eU U a3
   refine ⟨bM,ad,ab++us,bN.trans bJ,a2.trans cg,h0,?_,?_,?_⟩
   · rw [List.flatten_cons]
     exact aZ.append (LK bJ a4) j4
   · rw [List.length_append,j5,a5,aj,List.length_cons,Nat.add_mul]
     omega
   · intro i k aC
     cases i with
     | zero=>
       rw [Nat.zero_mul,List.drop_zero,List.take_left' (by rw [a5,aj])]
       simp only [List.getElem?_cons_zero,Option.some.injEq] at aC
       subst aC
       exact dh.ext cg _ _ _ _ iU
     | succ i=>
       rw [Nat.add_mul,Nat.one_mul,Nat.add_comm,←List.drop_drop,List.drop_left' (by rw [a5,aj])]
       exact qD i k (by simpa using aC)
theorem J5 (n:Nat):∀(bP:List Field) (ms:List Nat) (o bR:Nat) (cs:List Value),uj P bP o=some bR→cs.length=bR→ms.length=bP.length→(∀(i:Nat) (f:Field) (k:Nat),bP[i]? =some f→ms[i]? =some k→Lays P W n k f.type ((cs.drop f.offset).take (P.cellsOf f.type)))→
 o≤bR∧∀(E:Env) (h:ae),aW ⟨W,fun _=>none⟩ E h W→∃ar aa ab,E.le ar∧Ext h aa∧aW ⟨W,fun _=>none⟩ ar aa W∧aZ ar ab (cs.drop o)∧ab.length=bR-o∧
  ∀(i:Nat) (f:Field) (k:Nat),bP[i]? =some f→ms[i]? =some k→o≤f.offset∧dh P aa n k f.type ((ab.drop (f.offset-o)).take (P.cellsOf f.type))
 | [],_::_,_,_,_,_,_,iZ,_=>by simp at iZ
 | _::_,[],_,_,_,_,_,iZ,_=>by simp at iZ
 | [],[],o,bR,cs,aB,aj,_,_=>by
   simp only [uj,Option.some.injEq] at aB
   subst aB
   refine ⟨Nat.le_refl _,fun E h s=>⟨E,h,[],fun _ _ q=>q,Ext.refl h,s,?_,by simp,fun i f k ax=>by simp at ax⟩⟩
   rw [List.drop_eq_nil_of_le (by omega)]
   rfl
 | f::bP,m::ms,o,bR,cs,aB,aj,iZ,ag=>by
   simp only [uj] at aB
   by_cases ax:f.offset=o
   · rw [if_pos ax] at aB
     obtain ⟨g1,g2⟩:=J5 n bP ms (o+P.cellsOf f.type) bR cs aB aj (by simpa using iZ) (fun i f k ai ay=>ag (i+1) f k (by simpa using ai) (by simpa using ay))
     refine ⟨by omega,fun E h s=>?_⟩
     have rm:=ag 0 f m rfl rfl
     obtain ⟨eU,U,ab,bN,a2,a3,a4,a5,iU⟩:=rm E h s
     obtain ⟨bM,ad,us,bJ,cg,h0,j4,j5,qD⟩:=g2 eU U a3
     have ov:ab.length=P.cellsOf f.type:=by rw [a5,List.length_take,List.length_drop,ax];omega
     refine ⟨bM,ad,ab++us,bN.trans bJ,a2.trans cg,h0,?_,?_,?_⟩
     · have e:cs.drop o=(cs.drop f.offset).take (P.cellsOf f.type)++cs.drop (o+P.cellsOf f.type):=by
        rw [ax,←List.drop_drop,List.take_append_drop]
       rw [e]
       exact aZ.append (LK bJ a4) j4
     · rw [List.length_append,ov,j5]
       omega
     · intro i g k aD az
       cases i with
       | zero=>
         simp only [List.getElem?_cons_zero,Option.some.injEq] at aD az
         subst aD az
         refine ⟨by omega,?_⟩
         rw [ax,Nat.sub_self,List.drop_zero,List.take_left' ov]
         exact dh.ext cg _ _ _ _ iU
       | succ i=>
         obtain ⟨bB,bX⟩:=qD i g k (by simpa using aD) (by simpa using az)
         refine ⟨by omega,?_⟩
         rw [show g.offset-o=P.cellsOf f.type + (g.offset - (o+P.cellsOf f.type)) from by omega,←List.drop_drop,List.drop_left' ov]
         exact bX
   · rw [if_neg ax] at aB
     cases aB
theorem Ha {w:World} {a:Addr} {y:Value} (h:w.cell? a=some y):a.spot=none∧∃c el bF,w.heap[a.block]? =some (.cells c el bF)∧c[a.off]? =some y:=by
 refine ⟨World.cell?_spot h,?_⟩
 unfold World.cell? at h
 split at h
 · rename_i c el bF a8
   split at h
   · cases h
   · exact ⟨c,el,bF,a8,h⟩
 · cases h
theorem NO (a:Addr) (n:Nat):(a.add n).block=a.block:=by unfold Addr.add;split<;>rfl
theorem NP (a:Addr) (n:Nat):(a.add n).off=a.off+n:=by unfold Addr.add;split<;>simp_all
theorem aaH {w:World} {a:Addr} {l:List Value} (a6:0<l.length) (h:∀i,i<l.length→w.cell? (a.add i)=l[i]?):
 a.spot=none∧∃c el bF,w.heap[a.block]? =some (.cells c el bF)∧a.off+l.length≤c.size∧∀i,i<l.length→c[a.off+i]? =l[i]? :=by
 have s0:w.cell? (a.add 0)=some l[0]:=by rw [h 0 a6];exact List.getElem?_eq_getElem a6
 obtain ⟨s1,c,el,bF,s2,wM⟩:=Ha s0
 have cE:a.add 0=a:=by unfold Addr.add;simp
 rw [cE] at s1 s2 wM
 have key:∀i,i<l.length→c[a.off+i]? =l[i]? :=by
  intro i aC
  have q:=h i aC
  rw [List.getElem?_eq_getElem aC] at q ⊢
  obtain ⟨_,fB,ac3,ac6,t2,t3⟩:=Ha q
  rw [NO,s2] at t2
  rw [NP] at t3
  simp only [Option.some.injEq,Obj.cells.injEq] at t2
  obtain ⟨rfl,_,_⟩:=t2
  exact t3
 refine ⟨s1,c,el,bF,s2,?_,key⟩
 have:=key (l.length-1) (by omega)
 rw [List.getElem?_eq_getElem (by omega)] at this
 have aO:=(Array.getElem?_eq_some_iff.1 this).1
 omega
theorem MJ {E:Env} {h:ae} (s:aW ⟨W,fun _=>none⟩ E h W) {a:Addr} {cap:Nat} {l:List Value} (a6:0<l.length) (aq:∀i,i<l.length→W.cell? (a.add i)=l[i]?) {us:List V} (aH:aZ E us l):
 ∃ar aa b,E.le ar∧Ext h aa∧aW ⟨W,fun _=>none⟩ ar aa W∧Old aa b∧a.spot=none∧ar b=some ⟨a.block,a.off,cap⟩∧Rd aa b us:=by
 obtain ⟨s1,c,el,bF,s2,wM,uc⟩:=aaH a6 aq
 have Jt:us.length=l.length:=(aZ.length aH).symm
 refine ⟨nG E h ⟨a.block,a.off,cap⟩,h.new (.ro us),aG h.next,FG s _,(Ext.refl h).new _,aa9 s s2 (by omega) fun i v y bw a1=>?_,KV,s1,MI _ _ _,.inl (l7 _)⟩
 have aC:i<l.length:=by
  have:=(List.getElem?_eq_some_iff.1 bw).1
  omega
 rw [uc i aC] at a1
 obtain ⟨o6,aF,aM⟩:=aZ.get aH i v bw
 rw [a1] at aF
 simp only [Option.some.injEq] at aF
 rw [aF]
 exact aM
theorem H7 {α:Type} (size:Nat):∀(pieces:List (List α)) (i j:Nat),(∀l ∈ pieces,l.length=size)→i<pieces.length→j<size→pieces.flatten[i * size+j]? =(pieces[i]?).bind (·[j]?)
 | [],i,j,_,aC,_=>by simp at aC
 | l::ls,i,j,ag,aC,bG=>by
   have aj:l.length=size:=ag l (by simp)
   cases i with
   | zero=>
     rw [Nat.zero_mul,Nat.zero_add,List.flatten_cons,List.getElem?_append_left (by omega)]
     simp
   | succ i=>
     rw [List.flatten_cons,List.getElem?_append_right (by rw [aj,Nat.add_mul];omega)]
     rw [show (i+1) * size+j-l.length=i * size+j from by rw [aj,Nat.add_mul];omega]
     rw [H7 size ls i j (fun l aj=>ag l (by simp [aj])) (by simpa using aC) bG]
     simp
theorem H9 {α:Type} (size:Nat):∀(pieces:List (List α)),(∀l ∈ pieces,l.length=size)→pieces.flatten.length=pieces.length * size
 | [],_=>by simp
 | l::ls,ag=>by
   rw [List.flatten_cons,List.length_append,H9 size ls (fun l aj=>ag l (by simp [aj])),ag l (by simp),List.length_cons,Nat.add_mul]
   omega
theorem Lb {α:Type} (R:Nat→α→Prop):∀(len:Nat),(∀i,i<len→∃l,R i l)→∃a':List α,a'.length=len∧∀i l,a'[i]? =some l→R i l
 | 0,_=>⟨[],rfl,fun i l q=>by simp at q⟩
 | m+1,h=>by
   obtain ⟨a',ai,ay⟩:=Lb R m (fun i aC=>h i (by omega))
   obtain ⟨l,U⟩:=h m (by omega)
   refine ⟨a'++[l],by simp [ai],fun i dY en=>?_⟩
   by_cases aC:i<a'.length
   · rw [List.getElem?_append_left aC] at en
     exact ay i dY en
   · rw [List.getElem?_append_right (by omega)] at en
     have cE:i-a'.length=0:=by
      by_cases q:i-a'.length=0
      · exact q
      · rw [List.getElem?_eq_none (by simp;omega)] at en
        cases en
     rw [cE] at en
     simp at en
     subst en
     obtain rfl:i=m:=by omega
     exact U
theorem y1 (dw:r4 P=true) (cy:laidOutB P=true):∀(n:Nat) (t:TypeId) (cs:List Value) (x:DataW H × List MemPlace),t<P.types.size→DataW.trod enc P W base sp held n t cs=some x→Lays P W n (eI x.1) t cs
 | 0,t,cs,x,_,h=>by simp [DataW.trod] at h
 | n+1,t,cs,x,aO,h=>by
   have xz:∀(cs:List Value),(∀aa ab,ab.length=cs.length→dh P aa (n+1) (eI x.1) t ab)→Lays P W (n+1) (eI x.1) t cs:=by
    intro cs H E h s
    refine ⟨E,h,cs.map fun _=>.bad,fun _ _ q=>q,Ext.refl h,s,?_,by simp,H _ _ (by simp)⟩
    clear H
    induction cs with
    | nil=>rfl
    | cons c cs bh=>exact ⟨c,cs,rfl,by simp [Rel],bh⟩
   cases hu:P.underlying t with
   | none=>
     refine xz cs fun aa ab _=>?_
     simp only [dh,hu]
   | some u=>
     cases u with
     | bool=>
       obtain ⟨b,rfl,_⟩:=DataW.trod_bool hu h
       intro E h s
       exact ⟨E,h,[.bool b],fun _ _ q=>q,Ext.refl h,s,⟨_,_,rfl,rfl,rfl⟩,rfl,by simp only [dh,hu];exact ⟨b,rfl⟩⟩
     | int k=>
       obtain ⟨i,rfl,_,hw⟩:=DataW.trod_int hu h
       intro E h s
       exact ⟨E,h,[.int k i],fun _ _ q=>q,Ext.refl h,s,⟨_,_,rfl,rfl,rfl⟩,rfl,by simp only [dh,hu];exact ⟨i,rfl,hw⟩⟩
     | string=>
       obtain ⟨b,rfl,rfl,_⟩:=DataW.trod_string hu h
       intro E h s
       exact ⟨E,h,[.str b.data.toList],fun _ _ q=>q,Ext.refl h,s,⟨_,_,rfl,rfl,rfl⟩,rfl,by simp only [dh,hu,eI];exact ⟨_,rfl,Nat.le_refl _⟩⟩
     | struct bP=>
       obtain ⟨xs,hD,a7,rfl,aj,tt,ax⟩:=DataW.trod_struct hu h
       obtain rfl:n=hD:=by omega
       have Vi:uj P bP.toList 0=some (P.cellsOf t):=by
        unfold r4 at dw
        rw [List.all_eq_true] at dw
        have:=dw t (List.mem_range.2 aO)
        rw [hu] at this
        exact of_decide_eq_true this
       have hP:∀(i:Nat) (f:Field) (k:Nat),bP.toList[i]? =some f→(xs.map fun x=>eI x.1)[i]? =some k→Lays P W n k f.type ((cs.drop f.offset).take (P.cellsOf f.type)):=by
        intro i f k aC az
        have lp:f ∈ bP.toList:=List.mem_of_getElem? aC
        have q':bP[i]? =some f:=by simpa using aC
        have:=ax i f q'
        have I3:i<xs.length:=by
         rw [tt]
         exact (Array.getElem?_eq_some_iff.1 q').1
        rw [List.getElem?_eq_getElem I3] at this
        rw [List.getElem?_map,List.getElem?_eq_getElem I3,Option.map_some,Option.some.injEq] at az
        subst az
        exact y1 dw cy n _ _ _ ((kid_struct cy aO hu).1 f lp) this
       intro E h s
       obtain ⟨_,g⟩:=J5 n bP.toList (xs.map fun x=>eI x.1) 0 _ cs Vi aj (by simp [tt]) hP
       obtain ⟨ar,aa,ab,bN,a2,a3,a4,a5,iU⟩:=g E h s
       refine ⟨ar,aa,ab,bN,a2,a3,by simpa using a4,by rw [a5,aj];omega,?_⟩
       simp only [dh,hu]
       refine ⟨by omega,xs.map fun x=>eI x.1,by simp [tt],?_,fun i f k lp az=>⟨?_,by simpa using (iU i f k lp az).2⟩⟩
       · simp only [eI,Bb,List.map_map]
         exact Nat.le_refl _
       · rw [List.getElem?_map,Option.map_eq_some_iff] at az
         obtain ⟨y,_,rfl⟩:=az
         exact nX _
     | slice e=>
       rcases DataW.trod_slice hu h with ⟨rfl,rfl⟩ | ⟨a,len,cap,elems,rest,hD,a7,rfl,rfl,af,oi,_,IL,C',_,_⟩
       · intro E h s
         exact ⟨E,h,[.cq],fun _ _ q=>q,Ext.refl h,s,⟨_,_,rfl,rfl,rfl⟩,rfl,by simp only [dh,hu];exact ⟨nX _,.inl trivial⟩⟩
       · obtain rfl:n=hD:=by omega
         by_cases aR:P.cellsOf e=0
         · refine xz _ fun aa ab _=>?_
           simp only [dh,hu]
           exact ⟨nX _,.inr (.inr (.inl aR))⟩
         by_cases oh:len=0
         · subst oh
           intro E h s
           refine ⟨E,h,[.fA .z 0 0 0],fun _ _ q=>q,Ext.refl h,s,⟨_,_,rfl,?_,rfl⟩,rfl,by simp only [dh,hu];exact ⟨nX _,.inr (.inl ⟨_,_,_,_,rfl⟩)⟩⟩
           simp only [Rel]
           exact ⟨_,_,rfl⟩
         · -- its elements
           have h9:∀i,i<len→∃l,W.cells? base (a.add (i * P.cellsOf e)) (P.cellsOf e)=some l∧∀k:Nat,(elems.map fun x=>eI x.1)[i]? =some k→Lays P W n k e l:=by
            intro i aC
            have:=C' i aC
            rw [List.getElem?_eq_getElem (by omega)] at this
            rw [Option.bind_eq_some_iff] at this
            obtain ⟨l,U,ad⟩:=this
            refine ⟨l,U,fun k az=>?_⟩
            rw [List.getElem?_map,List.getElem?_eq_getElem (by omega),Option.map_some,Option.some.injEq] at az
            subst az
            exact y1 dw cy n _ _ _ (kid_slice cy aO hu) ad
           obtain ⟨pieces,gJ,gl⟩:∃pieces:List (List Value),pieces.length=len∧∀i (l:List Value),pieces[i]? =some l→W.cells? base (a.add (i * P.cellsOf e)) (P.cellsOf e)=some l∧∀k:Nat,(elems.map fun x=>eI x.1)[i]? =some k→Lays P W n k e l:=by
            exact Lb (fun i l=>W.cells? base (a.add (i * P.cellsOf e)) (P.cellsOf e)=some l∧∀k:Nat,(elems.map fun x=>eI x.1)[i]? =some k→Lays P W n k e l) len h9
           have h':∀(i:Nat) (l:List Value) (k:Nat),pieces[i]? =some l→(elems.map fun x=>eI x.1)[i]? =some k→l.length=P.cellsOf e∧Lays P W n k e l:=by
            intro i l k aC az
            obtain ⟨ai,ay⟩:=gl i l aC
            exact ⟨(xL ai).1,ay k az⟩
           have Je:∀l ∈ pieces,l.length=P.cellsOf e:=by
            intro l aj
            obtain ⟨i,aC⟩:=List.getElem?_of_mem aj
            exact (xL (gl i l aC).1).1
           intro E h s
           obtain ⟨eU,U,us,bN,a2,a3,a4,a5,iU⟩:=J6 n (P.cellsOf e) e pieces (elems.map fun x=>eI x.1) (by simp [IL,gJ]) h' E h s
           have hP:=H9 (P.cellsOf e) pieces Je
           have vu:0<len * P.cellsOf e:=Nat.mul_pos (by omega) (by omega)
           have q1:∀i,i<pieces.flatten.length→W.cell? (a.add i)=pieces.flatten[i]? :=by
            intro q aE
            rw [hP] at aE
            have I9:q % P.cellsOf e<P.cellsOf e:=Nat.mod_lt _ (by omega)
            have hdiv:q / P.cellsOf e<pieces.length:=Nat.div_lt_of_lt_mul (by rw [Nat.mul_comm];exact aE)
            have tf:q / P.cellsOf e * P.cellsOf e+q % P.cellsOf e=q:=by rw [Nat.mul_comm];exact Nat.div_add_mod q _
            rw [←tf,H7 (P.cellsOf e) pieces _ _ Je hdiv I9,List.getElem?_eq_getElem hdiv]
            obtain ⟨ai,_⟩:=gl _ _ (List.getElem?_eq_getElem hdiv)
            have:=(xL ai).2 _ I9
            rw [Option.bind_some,←this]
            congr 1
            unfold Addr.add
            by_cases ca:q / P.cellsOf e * P.cellsOf e=0
            · rw [ca];simp
            · by_cases z2:q % P.cellsOf e=0
              · rw [z2];simp
              · have z3:¬(q / P.cellsOf e * P.cellsOf e+q % P.cellsOf e=0):=by omega
                rw [if_neg ca,if_neg z2,if_neg z3]
                simp [Nat.add_assoc]
           obtain ⟨bM,ad,b,bJ,cg,h0,j4,j5,qD,A8⟩:=MJ a3 (cap:=cap) (by rw [hP,gJ];exact vu) q1 a4
           refine ⟨bM,ad,[.slice b 0 len cap],bN.trans bJ,a2.trans cg,h0,⟨_,_,rfl,?_,rfl⟩,rfl,?_⟩
           · simp only [Rel]
             refine ⟨_,qD,oi,?_⟩
             obtain ⟨On,Zg,st⟩:=a
             simp only at j5
             subst j5
             rfl
           · simp only [dh,hu]
             refine ⟨nX _,.inr (.inr (.inr ⟨b,len,cap,rfl,by omega,oi,j4,us,A8,by rw [a5,gJ],elems.map fun x=>eI x.1,by simp [IL],?_,fun i k az=>⟨?_,dh.ext cg _ _ _ _ (iU i k az)⟩⟩))⟩
             · simp only [eI,Bb,List.map_map]
               exact Nat.add_le_add_right (Nat.le_add_right _ _) 1
             · rw [List.getElem?_map,Option.map_eq_some_iff] at az
               obtain ⟨y,_,rfl⟩:=az
               exact nX _
     | pointer e=>
       rcases DataW.trod_pointer hu h with ⟨rfl,rfl⟩ | ⟨a,l0,y,hD,a7,rfl,rfl,aq,a1⟩
       · intro E h s
         exact ⟨E,h,[.jn],fun _ _ q=>q,Ext.refl h,s,⟨_,_,rfl,rfl,rfl⟩,rfl,by simp only [dh,hu];exact ⟨nX _,.inl trivial⟩⟩
       · obtain rfl:n=hD:=by omega
         by_cases aR:P.cellsOf e=0
         · refine xz _ fun aa ab _=>?_
           simp only [dh,hu]
           exact ⟨nX _,.inr (.inl aR)⟩
         · intro E h s
           obtain ⟨ai,ay⟩:=xL aq
           obtain ⟨eU,U,us,bN,a2,a3,a4,a5,iU⟩:=y1 dw cy n _ _ _ (kid_pointer cy aO hu) a1 E h s
           obtain ⟨bM,ad,b,bJ,cg,h0,j4,j5,qD,A8⟩:=MJ a3 (cap:=0) (by omega) (fun i aC=>ay i (by omega)) a4
           refine ⟨bM,ad,[.ptr b 0],bN.trans bJ,a2.trans cg,h0,⟨_,_,rfl,?_,rfl⟩,rfl,?_⟩
           · simp only [Rel]
             refine ⟨_,qD,?_⟩
             obtain ⟨On,Zg,st⟩:=a
             simp only at j5
             subst j5
             rfl
           · simp only [dh,hu]
             exact ⟨nX _,.inr (.inr ⟨b,rfl,j4,us,A8,by omega,_,Nat.le_refl _,dh.ext cg _ _ _ _ iU⟩)⟩
     | map k e=>
       have gT:cs.length=1:=by
        unfold DataW.trod at h
        rw [hu] at h
        split at h<;>simp_all
       intro E h s
       refine ⟨E,h,[.bad],fun _ _ q=>q,Ext.refl h,s,?_,by simp [gT],by simp only [dh,hu];exact .inr trivial⟩
       match cs,gT with
       | [c],_=>exact ⟨c,[],rfl,by simp [Rel],rfl⟩
     | interface ms=>
       have gT:cs.length=1:=by
        unfold DataW.trod at h
        rw [hu] at h
        split at h<;>simp_all
       intro E h s
       refine ⟨E,h,[.bad],fun _ _ q=>q,Ext.refl h,s,?_,by simp [gT],by simp only [dh,hu];exact .inr trivial⟩
       match cs,gT with
       | [c],_=>exact ⟨c,[],rfl,by simp [Rel],rfl⟩
     | _=>
       refine xz cs fun aa ab _=>?_
       simp only [dh,hu]
def k' (P:Program) (h:ae) (n m:Nat) (t:TypeId) (v:V):Prop:=
 match P.underlying t with
 | some (.struct _) | some (.array _ _)=>∃ab,v=.agg ab∧dh P h n m t ab
 | _=>dh P h n m t [v]
theorem k'.ext {h aa:ae} (e:Ext h aa) {n m:Nat} {t:TypeId} {v:V} (H:k' P h n m t v):k' P aa n m t v:=by
 unfold k' at H ⊢
 split at H
 · obtain ⟨ab,ai,ay⟩:=H
   exact ⟨ab,ai,dh.ext e _ _ _ _ ay⟩
 · obtain ⟨ab,ai,ay⟩:=H
   exact ⟨ab,ai,dh.ext e _ _ _ _ ay⟩
 · exact dh.ext e _ _ _ _ H
theorem Yc (dw:r4 P=true) (cy:laidOutB P=true) {r:Reach} {ph:Nat} {t:TypeId} {v:Value} {d:DataW H} {p:List MemPlace} (aO:t<P.types.size) (bg:Value.okWide P W r ph t v) (aV:DataW.Trod enc P W base sp held t v d p) {E:Env} {h:ae} (s:aW ⟨W,fun _=>none⟩ E h W):
 ∃n ar aa x,E.le ar∧Ext h aa∧aW ⟨W,fun _=>none⟩ ar aa W∧Rel ar x v∧k' P aa n (eI d) t x:=by
 obtain ⟨fuel,ax⟩:=aV
 obtain ⟨ar,aa,ab,bN,a2,a3,a4,a5,iU⟩:=y1 dw cy _ _ _ _ aO ax E h s
 have agg:(∃cs,v=.agg cs)→∃x,Rel ar x v∧x=.agg ab:=by
  rintro ⟨cs,rfl⟩
  exact ⟨.agg ab,by simp only [Rel];exact ⟨cs,rfl,a4⟩,rfl⟩
 have one:v.cells=#[v]→∃x,Rel ar x v∧ab=[x]:=by
  intro aq
  rw [aq] at a4 a5
  match ab,a4,a5 with
  | [x],⟨y,bZ,aF,aM,cm⟩,_=>
    simp only [List.cons.injEq] at aF
    exact ⟨x,aF.1 ▸ aM,rfl⟩
 refine ⟨fuel,ar,aa,?_⟩
 unfold Value.okWide at bg
 cases hu:P.underlying t with
 | none=>
   rw [hu] at bg
   simp only [Cell.okWide,Cell.ok,hu] at bg
 | some u=>
   rw [hu] at bg
   unfold k'
   rw [hu]
   cases u<;>simp only at bg ⊢<;>first
    | (obtain ⟨cs,bw,_⟩:=bg
       obtain ⟨x,ai,ay⟩:=agg ⟨cs,bw⟩
       exact ⟨x,bN,a2,a3,ai,ab,ay,iU⟩)
    | (have aq:v.cells=#[v]:=by
        cases v<;>first
         | rfl
         | (simp only [Cell.okWide,Cell.ok,hu] at bg)
       obtain ⟨x,ai,ay⟩:=one aq
       exact ⟨x,bN,a2,a3,ai,ay ▸ iU⟩)
def kE (P:Program) (h:ae):Nat→List TypeId→List V→Prop
 | _,[],[]=>True
 | m,t::b7,v::ab=>∃k bl,k+bl≤m∧(∃n,k' P h n k t v)∧kE P h bl b7 ab
 | _,_,_=>False
theorem kE.mono {h:ae}:∀{m cI:Nat} {b7:List TypeId} {ab:List V},m≤cI→kE P h m b7 ab→kE P h cI b7 ab
 | _,_,[],[],_,H=>by unfold kE;trivial
 | _,_,[],_::_,_,H=>H.elim
 | _,_,_::_,[],_,H=>H.elim
 | _,_,_::_,_::_,hm,⟨k,bl,az,H,hY⟩=>⟨k,bl,Nat.le_trans az hm,H,hY⟩
theorem J4 (dw:r4 P=true) (cy:laidOutB P=true) {r:Reach} {ph:Nat}:∀{b7:List TypeId} {ab:List Value} {ds:List (DataW H)} {p:List MemPlace},(∀t ∈ b7,t<P.types.size)→(∀(j:Nat) t v,b7[j]? =some t→ab[j]? =some v→Value.okWide P W r ph t v)→
 DataW.TrodAll enc P W base sp held b7 ab ds p→∀{E:Env} {h:ae},aW ⟨W,fun _=>none⟩ E h W→∃ar aa xs,E.le ar∧Ext h aa∧aW ⟨W,fun _=>none⟩ ar aa W∧aZ ar xs ab∧kE P aa (jw ds) b7 xs
 | [],[],ds,p,_,_,_,E,h,s=>⟨E,h,[],fun _ _ q=>q,Ext.refl h,s,rfl,by unfold kE;trivial⟩
 | [],_::_,ds,p,_,_,aV,E,h,s=>by cases ds<;>exact aV.elim
 | _::_,[],ds,p,_,_,aV,E,h,s=>by cases ds<;>exact aV.elim
 | _::_,_::_,[],p,_,_,aV,E,h,s=>aV.elim
 | t::b7,v::ab,d::ds,p,aB,bw,⟨bY,b9,U,ad,_⟩,E,h,s=>by
   obtain ⟨n,eU,g1,x,bN,a2,a3,a4,a5⟩:=Yc dw cy (aB t (by simp)) (bw 0 t v rfl rfl) U s
   obtain ⟨bM,g2,xs,bJ,cg,h0,j4,j5⟩:=J4 dw cy (fun t q=>aB t (by simp [q])) (fun j t v ai ay=>bw (j+1) t v (by simpa using ai) (by simpa using ay)) ad a3
   exact ⟨bM,g2,x::xs,bN.trans bJ,a2.trans cg,h0,⟨_,_,rfl,Rel.mono bJ _ _ a4,j4⟩,eI d,jw ds,by simp only [jw];exact Nat.le_refl _,⟨n,a5.ext cg⟩,j5⟩
theorem Q8 (dw:r4 P=true) (cy:laidOutB P=true) {r:Reach} {ph:Nat} {f:FuncId} {b7:List TypeId} {ab:List Value} {ds:List (DataW H)} {p:List MemPlace} (eo:∀t ∈ b7,t<P.types.size) (bw:∀(j:Nat) t v,b7[j]? =some t→ab[j]? =some v→Value.okWide P W r ph t v)
 (aV:DataW.TrodAll enc P W base sp held b7 ab ds p) (sZ:Lay.ok W) (bt:dJ P) (af:∃fn,P.funcs[f]? =some fn∧fn.body.isSome=true) (aq:∀(h:ae) (xs:List V),kE P h (jw ds) b7 xs→bK P f xs h fun y _=>y=.bool true):
 Calls P f ab.toArray W fun e ak=>e=.returned (.bool true)∧Below W.heap.size W ak:=by
 obtain ⟨E,h,xs,_,_,a3,a4,a5⟩:=J4 dw cy eo bw aV (zY W sZ)
 obtain ⟨y,aa,l_,rfl⟩:=aq h xs a5
 refine (l_.calls bt af _ E W ab a4 a3).mono fun e ak q=>?_
 obtain ⟨ar,x,rfl,_,ay,aK⟩:=q
 simp only [Rel] at ay
 subst ay
 exact ⟨rfl,aK.frame⟩
end
end Go.Proofs.YtkehcalakofigaaGreatDoor.aY
namespace Go.Proofs.YtkehcalakofigaaGreatDoor.aY
variable [Lay]
open Go Go.RowKit
theorem collect {α:Type} (enc:α→List V) (size:Nat) (Q:α→Prop):∀(len:Nat) (us:List V),us.length=len * size→(∀i,i<len→∃a,(us.drop (i * size)).take size=enc a∧Q a)→
 ∃mQ:List α,mQ.length=len∧us=mQ.flatMap enc∧∀a ∈ mQ,Q a
 | 0,us,aj,_=>⟨[],rfl,by simpa using aj,fun a h=>by simp at h⟩
 | len+1,us,aj,h=>by
   obtain ⟨a,U,ad⟩:=h 0 (by omega)
   rw [Nat.add_mul,Nat.one_mul] at aj
   obtain ⟨mQ,g1,g2,g3⟩:=collect enc size Q len (us.drop size) (by rw [List.length_drop];omega) (fun i aC=>by
    obtain ⟨b,b6,cz⟩:=h (i+1) (by omega)
    refine ⟨b,?_,cz⟩
    rw [List.drop_drop,←b6,Nat.add_mul,Nat.one_mul,Nat.add_comm])
   refine ⟨a::mQ,by simp [g1],?_,fun b af=>?_⟩
   · rw [List.flatMap_cons,←g2,←U,Nat.zero_mul,List.drop_zero,List.take_append_drop]
   · rcases List.mem_cons.1 af with rfl | af
     · exact ad
     · exact g3 b af
section
variable {P:Program} {h:ae} {n m:Nat} {t:TypeId}
theorem dh.pos {ab:List V} (H:dh P h n m t ab):∃k,n=k+1:=by
 cases n with
 | zero=>exact H.elim
 | succ m=>exact ⟨m,rfl⟩
theorem dh.int {ab:List V} {k:IntKind} (H:dh P h n m t ab) (hu:P.underlying t=some (.int k)):∃i,ab=[.int k i]∧(Lit.int k i).wf=true:=by
 obtain ⟨m,rfl⟩:=H.pos
 simpa only [dh,hu] using H
def wK (v:V):Prop:=∀b off l c,v=.slice b off l c→l≤c
def AS (h:ae) (size:Nat) (v:V) (len m:Nat) (Q:Nat→List V→Prop):Prop:=
 v.one=true∧v.cells=[v]∧v.e9=true∧iH v=some (.int .i64 len)∧wK v∧∃(us:List V) (ms:List Nat),eW h size v len us∧ms.length=len∧ms.sum+1≤m∧∀(i k:Nat),ms[i]? =some k→1≤k∧Q k ((us.drop (i * size)).take size)
theorem dh.slice {ab:List V} {e:TypeId} (H:dh P h n m t ab) (hu:P.underlying t=some (.slice e)) (aR:P.cellsOf e≠0):∃hD v len,n=hD+1∧ab=[v]∧AS h (P.cellsOf e) v len m (fun k=>dh P h hD k e):=by
 obtain ⟨hD,rfl⟩:=H.pos
 simp only [dh,hu] at H
 obtain ⟨a6,H⟩:=H
 rcases H with rfl | ⟨b,i,j,k,rfl⟩ | q | ⟨b,len,cap,rfl,U,ad,bq,us,b6,cz,ms,fx,fG,jh⟩
 · exact ⟨hD,_,0,rfl,rfl,rfl,rfl,rfl,rfl,(fun _ _ _ _ e=>by cases e),[],[],⟨by simp,rfl⟩,rfl,by simpa using a6,fun i k aC=>by simp at aC⟩
 · exact ⟨hD,_,0,rfl,rfl,rfl,rfl,rfl,rfl,(fun _ _ _ _ e=>by cases e),[],[],⟨by simp,rfl⟩,rfl,by simpa using a6,fun i k aC=>by simp at aC⟩
 · exact absurd q aR
 · exact ⟨hD,_,len,rfl,rfl,rfl,rfl,rfl,rfl,(fun _ _ _ _ e=>by cases e;exact ad),us,ms,⟨cz,rfl,bq,us,b6,by omega,by simp⟩,fx,fG,jh⟩
end
end Go.Proofs.YtkehcalakofigaaGreatDoor.aY
namespace Go.Proofs.YtkehcalakofigaaGreatDoor.aY
variable [Lay]
open Go Go.RowKit Go.ChangeShapes Go.WideShapes
section
variable {H:Type} {enc:TypeId × Value→H} {P:Program}
theorem GD (cy:laidOutB P=true) {W uH:World} (af:Below W.heap.size W uH):∀{b7:List TypeId} {ab:List Value} {ds:List (DataW H)} {a':List MemPlace},(b7.all fun t=>P.readableRec t&&decide (t<P.types.size))=true→
 DataW.TrodAll enc P W 0 (fun _=>true) true b7 ab ds a'→DataW.TrodAll enc P uH 0 (fun b=>decide (b<W.heap.size)) true b7 ab ds a'
 | [],[],[],_,_,h=>h
 | [],_::_,_,_,_,h=>by rename_i ds _;cases ds<;>exact h.elim
 | [],[],_::_,_,_,h=>h.elim
 | _::_,[],_,_,_,h=>by rename_i ds _;cases ds<;>exact h.elim
 | _::_,_::_,[],_,_,h=>h.elim
 | t::b7,v::ab,d::ds,a',aH,h=>by
   have aO:=h.lt
   obtain ⟨p,q,U,ad,rfl⟩:=h
   simp only [List.all_cons,Bool.and_eq_true,decide_eq_true_eq] at aH
   exact ⟨p,q,Below.trod cy aH.1.1 aH.1.2 U af (fun x ao=>aO x (by simp [ao])),GD cy af aH.2 ad,rfl⟩
theorem Mx {W:World} {base:Nat} {sp:Nat→Bool} {held:Bool}:∀{b7:List TypeId} {ab:List Value} {ds:List (DataW H)} {a':List MemPlace},DataW.TrodAll enc P W base sp held b7 ab ds a'→ds.length=b7.length
 | [],[],[],_,_=>rfl
 | [],_::_,ds,_,h=>by cases ds<;>exact h.elim
 | [],[],_::_,_,h=>h.elim
 | _::_,[],ds,_,h=>by cases ds<;>exact h.elim
 | _::_,_::_,[],_,h=>h.elim
 | t::b7,v::ab,d::ds,a',h=>by
   obtain ⟨p,q,U,ad,rfl⟩:=h
   simp [Mx ad]
theorem X2 (dw:r4 P=true) (cy:laidOutB P=true) {f:FuncId} {fn:Func} {s:ChangeSpec} {Fz:TypeId} (eo:(fn.params.toList.all fun t=>P.readableRec t&&decide (t<P.types.size))=true) (Jv:s.vars=[]) (U':fn.resultTypes=#[Fz]) (Vo:P.underlying Fz=some .bool)
 (DR:∀ds:List (DataW H),ds.length=fn.params.size→s.fn H (ds++[])={results:=[.lit (.bool true)],args:=ds})
 {B:Nat} (aq:∀(h:ae) (xs:List V),kE P h B fn.params.toList xs→bK P f xs h fun y _=>y=.bool true)
 {W:World} {base:Nat} {args:Array Value} {ds gs:List (DataW H)} {before:List MemPlace} (az:jw (ds++gs)≤B) (iD:Lay.ok W) (bt:dJ P) (af:∃fn,P.funcs[f]? =some fn∧fn.body.isSome=true)
 (DU:∀(j:Nat) t v,fn.params[j]? =some t→args[j]? =some v→Value.okWide P W .any base t v) (sZ:DataW.Whole enc P fn.params.toList s.vars false W args.toList ds gs before):
 Calls P f args W fun e uH=>∃v,e=.returned v∧s.post enc P fn false true false false W args v uH:=by
 have TK:=sZ
 obtain ⟨p,q,kI,Iz,rfl,nb,lq⟩:=sZ
 rw [Jv] at Iz
 obtain ⟨rfl,rfl⟩:=trodVars_none Iz
 have hlen:ds.length=fn.params.size:=by rw [Mx kI];simp
 have hw:=Q8 dw cy (ph:=base) (r:=.any) (fun t aB=>by
  have:=List.all_eq_true.1 eo t aB
  simp only [Bool.and_eq_true,decide_eq_true_eq] at this
  exact this.2) (fun j t v U ad=>DU j t v (by simpa using U) (by simpa using ad)) kI iD bt af (fun h xs q=>aq h xs (q.mono (by simpa using az)))
 simp only [Array.toArray_toList] at hw
 refine hw.mono fun e uH ⟨he,GC⟩=>?_
 subst he
 refine ⟨_,rfl,ds,[],p++[],[],p,[],TK,?_,?_,?_,GC.frame _,fun h=>by cases h⟩
 · rw [DR ds hlen,U']
   exact trodAll_mk1 (shut_bool Vo _)
 · rw [DR ds hlen]
   exact GD cy GC eo kI
 · rw [DR ds hlen,Jv]
   rfl
end
end Go.Proofs.YtkehcalakofigaaGreatDoor.aY
namespace Go.Proofs.YtkehcalakofigaaGreatDoor.aY
variable [Lay]
open Go Go.RowKit
theorem aa2 {P:Program} {h:ae} {B:Nat} {xs:List V} (aR:kE P h B [] xs):xs=[]:=by
 match xs,aR with
 | [],_=>rfl
theorem L9 {P:Program} {h:ae} {B:Nat} {t:TypeId} {b7:List TypeId} {xs:List V} (aR:kE P h B (t::b7) xs):∃a mQ k bl n,xs=a::mQ∧k+bl≤B∧k' P h n k t a∧kE P h bl b7 mQ:=by
 match xs,aR with
 | a::mQ,⟨k,bl,az,⟨n,a6⟩,U⟩=>exact ⟨a,mQ,k,bl,n,rfl,az,a6,U⟩
section
variable {P:Program} {h:ae} {n m:Nat} {t:TypeId} {v:V}
theorem aa3 {k:IntKind} (aR:k' P h n m t v) (hu:P.underlying t=some (.int k)):∃i,v=.int k i∧(Lit.int k i).wf=true:=by
 unfold k' at aR
 rw [hu] at aR
 obtain ⟨s,e,q⟩:=dh.int aR hu
 simp only [List.cons.injEq,and_true] at e
 exact ⟨s,e,q⟩
theorem aa4 {e:TypeId} (aR:k' P h n m t v) (hu:P.underlying t=some (.slice e)) {c:Nat} (aq:P.cellsOf e=c) (s0:c≠0):∃hD len,AS h c v len m (fun k=>dh P h hD k e):=by
 unfold k' at aR
 rw [hu] at aR
 subst aq
 obtain ⟨hD,w,len,_,aF,g⟩:=dh.slice aR hu s0
 simp only [List.cons.injEq,and_true] at aF
 subst aF
 exact ⟨hD,len,g⟩
end
end Go.Proofs.YtkehcalakofigaaGreatDoor.aY
namespace Go.Proofs.YtkehcalakofigaaGreatDoor.aY
variable [Lay]
open Go Go.RowKit
inductive D where
 | i (k:IntKind) (n:Int)
 | b (x:Bool)
 | s (x:List UInt8)
 | l (size:Nat) (es:List (List D))
inductive cl (F:aN→Prop) (h:ae):List D→List V→Prop
 | nil:cl F h [] []
 | i {k:IntKind} {n:Int} {ds:List D} {ab:List V} (t:cl F h ds ab):cl F h (.i k n::ds) (.int k n::ab)
 | b {x:Bool} {ds:List D} {ab:List V} (t:cl F h ds ab):cl F h (.b x::ds) (.bool x::ab)
 | s {x:List UInt8} {ds:List D} {ab:List V} (af:x.length≤top) (t:cl F h ds ab):cl F h (.s x::ds) (.str x::ab)
 | l {size:Nat} {es:List (List D)} {v:V} {us:List (List V)} {ds:List D} {ab:List V} (aH:wK v) (af:es.length≤top) (aR:eW h size v es.length us.flatten) (hu:us.length=es.length) (bn:∀u ∈ us,u.length=size)
    (kids:∀(i:Nat) (e:List D) (u:List V),es[i]? =some e→us[i]? =some u→cl F h e u) (ax:∀b,v.bd b→F b) (t:cl F h ds ab):cl F h (.l size es::ds) (v::ab)
structure cM (F:aN→Prop) (h:ae) (size:Nat) (es:List (List D)) (v:V):Prop where
 room:wK v
 le:es.length≤top
 ex:∃us:List (List V),eW h size v es.length us.flatten∧us.length=es.length∧(∀u ∈ us,u.length=size)∧∀(i:Nat) (e:List D) (u:List V),es[i]? =some e→us[i]? =some u→cl F h e u
 u9:∀b,v.bd b→F b
section
variable {F:aN→Prop} {h aa:ae} {ds:List D} {ab:List V}
theorem cl.mod {de M:aN→Prop} (m:Mod M h aa) (cO:∀b,F b→Old h b→¬M b∧de b) (H:cl F h ds ab):cl de aa ds ab:=by
 induction H with
 | nil=>exact .nil
 | i t bh=>exact .i bh
 | b t bh=>exact .b bh
 | s af t bh=>exact .s af bh
 | l aH af aR hu bn kids ax t pK oz=>exact .l aH af (aR.mod m fun b q=>(cO b (ax b q) (aR.b2 q)).1) hu bn pK (fun b q=>(cO b (ax b q) (aR.b2 q)).2) oz
theorem cl.ext (H:cl F h ds ab) (e:Ext h aa):cl F aa ds ab:=by
 induction H with
 | nil=>exact .nil
 | i t bh=>exact .i bh
 | b t bh=>exact .b bh
 | s af t bh=>exact .s af bh
 | l aH af aR hu bn kids ax t pK oz=>exact .l aH af (aR.ext e) hu bn pK ax oz
theorem cl.mK {de:aN→Prop} (H:cl F h ds ab) (w:∀b,F b→de b):cl de h ds ab:=by
 induction H with
 | nil=>exact .nil
 | i t bh=>exact .i bh
 | b t bh=>exact .b bh
 | s af t bh=>exact .s af bh
 | l aH af aR hu bn kids ax t pK oz=>exact .l aH af aR hu bn pK (fun b q=>w b (ax b q)) oz
theorem cl.b2 (H:cl F h ds ab):cl (fun b=>F b∧Old h b) h ds ab:=by
 induction H with
 | nil=>exact .nil
 | i t bh=>exact .i bh
 | b t bh=>exact .b bh
 | s af t bh=>exact .s af bh
 | l aH af aR hu bn kids ax t pK oz=>exact .l aH af aR hu bn pK (fun b q=>⟨ax b q,aR.b2 q⟩) oz
theorem cl.ef (H:cl F h ds ab):ef ab=true:=by
 induction H with
 | nil=>rfl
 | i t bh=>simpa [Go.Proofs.YtkehcalakofigaaGreatDoor.aY.ef,V.one] using bh
 | b t bh=>simpa [Go.Proofs.YtkehcalakofigaaGreatDoor.aY.ef,V.one] using bh
 | s af t bh=>simpa [Go.Proofs.YtkehcalakofigaaGreatDoor.aY.ef,V.one] using bh
 | l aH af aR hu bn kids ax t pK oz=>simp only [Go.Proofs.YtkehcalakofigaaGreatDoor.aY.ef,aR.one.1,oz,Bool.and_self]
theorem cl.int {k:IntKind} {n:Int} (H:cl F h (.i k n::ds) ab):∃us,ab=.int k n::us∧cl F h ds us:=by
 cases H with
 | i t=>exact ⟨_,rfl,t⟩
theorem cl.str {x:List UInt8} (H:cl F h (.s x::ds) ab):∃us,ab=.str x::us∧x.length≤top∧cl F h ds us:=by
 cases H with
 | s af t=>exact ⟨_,rfl,af,t⟩
theorem cl.gD {size:Nat} {es:List (List D)} (H:cl F h (.l size es::ds) ab):∃v us,ab=v::us∧cM F h size es v∧cl F h ds us:=by
 cases H with
 | l aH af aR hu bn kids ax t=>exact ⟨_,_,rfl,⟨aH,af,⟨_,aR,hu,bn,kids⟩,ax⟩,t⟩
theorem cl.no (H:cl F h [] ab):ab=[]:=by cases H;rfl
end
theorem H6 {size:Nat}:∀(us:List (List V)) (i:Nat) (u:List V),(∀u ∈ us,u.length=size)→us[i]? =some u→(us.flatten.drop (i * size)).take size=u
 | [],i,u,_,h=>by simp at h
 | w::us,0,u,aj,h=>by
   simp only [List.getElem?_cons_zero,Option.some.injEq] at h
   subst h
   rw [Nat.zero_mul,List.drop_zero,List.flatten_cons,List.take_left' (aj _ (by simp))]
 | w::us,i+1,u,aj,h=>by
   rw [show (i+1) * size=size+i * size from by rw [Nat.succ_mul,Nat.add_comm],←List.drop_drop,List.flatten_cons,List.drop_left' (aj _ (by simp))]
   exact H6 us i u (fun u hu=>aj u (by simp [hu])) (by simpa using h)
theorem Cr {size:Nat}:∀(us:List (List V)),(∀u ∈ us,u.length=size)→us.flatten.length=us.length * size
 | [],_=>by simp
 | w::us,aj=>by rw [List.flatten_cons,List.length_append,aj w (by simp),Cr us (fun u hu=>aj u (by simp [hu])),List.length_cons,Nat.succ_mul,Nat.add_comm]
section
variable {F:aN→Prop} {h aa:ae} {size:Nat} {es:List (List D)} {v:V}
theorem cM.cons {ds:List D} {ab:List V} (H:cM F h size es v) (t:cl F h ds ab):cl F h (.l size es::ds) (v::ab):=by
 obtain ⟨us,a,b,c,d⟩:=H.ex
 exact .l H.room H.le a b c d H.u9 t
theorem cM.ext (H:cM F h size es v) (e:Ext h aa):cM F aa size es v:=by
 obtain ⟨us,a,b,c,d⟩:=H.ex
 exact ⟨H.room,H.le,⟨us,a.ext e,b,c,fun i x u ai ay=>(d i x u ai ay).ext e⟩,H.u9⟩
theorem cM.mod {de M:aN→Prop} (m:Mod M h aa) (cO:∀b,F b→Old h b→¬M b∧de b) (H:cM F h size es v):cM de aa size es v:=by
 obtain ⟨us,a,b,c,d⟩:=H.ex
 exact ⟨H.room,H.le,⟨us,a.mod m fun x q=>(cO x (H.u9 x q) (a.b2 q)).1,b,c,fun i x u ai ay=>(d i x u ai ay).mod m cO⟩,fun x q=>(cO x (H.u9 x q) (a.b2 q)).2⟩
theorem cM.mK {de:aN→Prop} (H:cM F h size es v) (w:∀b,F b→de b):cM de h size es v:=by
 obtain ⟨us,a,b,c,d⟩:=H.ex
 exact ⟨H.room,H.le,⟨us,a,b,c,fun i x u ai ay=>(d i x u ai ay).mK w⟩,fun b q=>w b (H.u9 b q)⟩
theorem cM.len (H:cM F h size es v):iH v=some (.int .i64 es.length):=by
 obtain ⟨us,a,_⟩:=H.ex
 exact a.len
theorem cM.one (H:cM F h size es v):v.one=true∧v.cells=[v]∧v.e9=true:=by
 obtain ⟨us,a,_⟩:=H.ex
 exact a.one
theorem cM.nil (F:aN→Prop) (h:ae) (size:Nat):cM F h size [] .cq:=⟨fun b o l c e=>(by cases e),Nat.zero_le _,⟨[],⟨by simp,rfl⟩,rfl,fun u hu=>(by cases hu),fun i e u q=>(by simp at q)⟩,fun b q=>q.elim⟩
theorem cM.at (H:cM F h size es v) {k:IntKind} {i:Nat} (aC:i<es.length):
 ∃b off u,jd size v (.int k i)=some (.ptr b (off+i * size))∧cl F h es[i] u∧u.length=size∧(∀aa,Ext h aa→lB size (aa.get b) (off+i * size)=some (.agg u))∧∀aa,Ext h aa→∀j,j<size→gV (aa.get b) (off+i * size+j)=u[j]? :=by
 obtain ⟨us,U,ad,aj,aI⟩:=H.ex
 have IV:i<us.length:=by omega
 have hu:=List.getElem?_eq_getElem IV
 obtain ⟨b,off,aF,aM⟩:=U.dy (k:=k) aC
 have ax:=H6 us i _ aj hu
 have hP:=Cr us aj
 have hle:i * size+size≤us.length * size:=by
  have:=Nat.mul_le_mul_right size (show i+1≤us.length by omega)
  rw [Nat.succ_mul] at this
  exact this
 have Jt:us[i].length=size:=aj _ (List.getElem_mem IV)
 refine ⟨b,off,us[i],aF,aI i _ _ (List.getElem?_eq_getElem aC) hu,Jt,fun aa e=>?_,fun aa e j bG=>?_⟩
 · rw [(aM.ext e).hT (i:=i * size) (n:=size) (by omega),ax]
 · rw [Nat.add_assoc,(aM.ext e).fU (i:=i * size+j) (by omega)]
   have:((us.flatten.drop (i * size)).take size)[j]? =us[i][j]? :=by rw [ax]
   rw [List.getElem?_take_of_lt bG,List.getElem?_drop] at this
   rw [←this,List.getElem?_eq_getElem (by omega)]
end
end Go.Proofs.YtkehcalakofigaaGreatDoor.aY
namespace Go.Proofs.YtkehcalakofigaaGreatDoor.aY
variable [Lay]
open Go Go.RowKit
def Any (_:aN):Prop:=True
theorem Mo:∀{ms:List Nat},(∀(i k:Nat),ms[i]? =some k→1≤k)→ms.length≤ms.sum
 | [],_=>Nat.le_refl _
 | m::ms,h=>by
   have a6:=h 0 m rfl
   have:=Mo (ms:=ms) fun i k q=>h (i+1) k (by simpa using q)
   simp only [List.length_cons,List.sum_cons]
   omega
theorem Mn:∀{ms:List Nat} {i k:Nat},ms[i]? =some k→k≤ms.sum
 | [],_,_,h=>by simp at h
 | m::ms,0,k,h=>by simp only [List.getElem?_cons_zero,Option.some.injEq] at h;subst h;simp only [List.sum_cons];omega
 | m::ms,i+1,k,h=>by
   have:=Mn (ms:=ms) (i:=i) (k:=k) (by simpa using h)
   simp only [List.sum_cons];omega
theorem ZK {α:Type} (enc:α→List D) {h:ae} {size len m:Nat} {v:V} {Q:Nat→List V→Prop} (H:AS h size v len m Q) (hm:m≤1048576)
 (aE:∀k ab,k<m→Q k ab→∃x,cl Any h (enc x) ab∧ab.length=size):∃xs:List α,xs.length=len∧xs.length+1≤m∧cM Any h size (xs.map enc) v:=by
 obtain ⟨_,_,_,_,aH,us,aJ,b6,cz,fx,fG⟩:=H
 have adw:=Mo fun i k q=>(fG i k q).1
 obtain ⟨a',g1,g2,g3⟩:=collect (α:=α × List V) Prod.snd size (fun p=>cl Any h (enc p.1) p.2∧p.2.length=size) len us b6.1 (fun i aC=>by
  obtain ⟨k,az⟩:∃k,aJ[i]? =some k:=⟨_,List.getElem?_eq_getElem (by omega)⟩
  have:=Mn az
  obtain ⟨x,ao,aj⟩:=aE k _ (by omega) (fG i k az).2
  exact ⟨(x,_),rfl,ao,aj⟩)
 refine ⟨a'.map Prod.fst,by rw [List.length_map];exact g1,by rw [List.length_map];omega,aH,by rw [List.length_map,List.length_map];unfold top;omega,⟨a'.map Prod.snd,?_,by simp,?_,?_⟩,fun _ _=>trivial⟩
 · rw [List.length_map,List.length_map,g1,←List.flatMap_def,←g2]
   exact b6
 · intro u hu
   obtain ⟨p,ag,rfl⟩:=List.mem_map.1 hu
   exact (g3 p ag).2
 · intro i c u ai ay
   rw [List.getElem?_map] at ai ay
   rw [List.getElem?_map] at ai
   cases ag:a'[i]? with
   | none=>rw [ag] at ai;cases ai
   | some p=>
     rw [ag] at ai ay
     simp only [Option.map_some,Option.some.injEq] at ai ay
     subst ai ay
     exact (g3 p (List.mem_of_getElem? ag)).1
structure Has (h:ae) (n:Nat) (l:List V):Prop where
 lt:n<h.next
 g:h.get (aG n)=.bk l 0 false
theorem Has.ext {h aa:ae} {n:Nat} {l:List V} (B:Has h n l) (e:Ext h aa):Has aa n l:=⟨Nat.lt_of_lt_of_le B.lt e.next,(e.get _ (gL B.lt)).trans B.g⟩
theorem jv (h:ae) (l:List V):∃H,h.new (.bk l 0 false)=H∧Ext h H∧Has H h.next l:=⟨_,rfl,(Ext.refl h).new _,by rw [gn];omega,l7 _⟩
theorem j6 (h:ae) (z l:List V):∃H,(h.new (.bk z 0 false)).set (aG h.next) (.bk l 0 false)=H∧Ext h H∧Has H h.next l:=
 ⟨_,rfl,((Ext.refl h).new _).set (Nat.le_refl _) _,by rw [mA,gn];omega,by rw [dH,if_pos rfl]⟩
theorem Has.set {h:ae} {n m:Nat} {l:List V} (B:Has h n l) (hm:n≠m) (k:bS):Has (h.set (aG m) k) n l:=⟨by rw [mA];exact B.lt,by rw [dH,if_neg (by rw [oL];exact fun q=>hm q.symm)];exact B.g⟩
theorem Has.put {h:ae} {n:Nat} {l:List V} (B:Has h n l) (dY:List V):Has (h.set (aG n) (.bk dY 0 false)) n dY:=⟨by rw [mA];exact B.lt,by rw [dH,if_pos rfl]⟩
theorem cM.set {F:aN→Prop} {h:ae} {size:Nat} {es:List (List D)} {v:V} (H:cM F h size es v) {b:aN} (af:¬F b) (k:bS):cM F (h.set b k) size es v:=
 H.mod ((Mod.refl (fun x=>x=b) h).set (fun _=>rfl) k) fun x q _=>⟨fun e=>af (e ▸ q),q⟩
theorem cl.Zm {F:aN→Prop} {h:ae} {ds:List D} {ab:List V} (H:cl F h ds ab):cl (Old h) h ds ab:=H.b2.mK fun _ q=>q.2
theorem EE {h:ae} {n:Nat} (a7:h.next≤n):¬Old h (aG n):=fun q=>by unfold Old at q;rw [dV] at q;omega
theorem nH {i n:Nat} (h:i<n) (a7:n≤4611686018427387904):IntKind.i64.wrap ((i:Int)+1)=((i+1:Nat):Int):=by rw [wrap_i64 (by omega) (by omega)];rfl
def encI (i:Int):List D:=[.i .i64 i]
theorem cM.yU {F:aN→Prop} {h:ae} {l:List Int} {v:V} (H:cM F h 1 (l.map encI) v) {k:IntKind} {i:Nat} (aC:i<l.length):
 ∃b off,jd 1 v (.int k i)=some (.ptr b (off+i * 1))∧∀aa,Ext h aa→gV (aa.get b) (off+i * 1)=some (.int .i64 l[i]):=by
 obtain ⟨b,off,u,aF,aM,cm,_,gH⟩:=H.at (k:=k) (i:=i) (by rw [List.length_map];exact aC)
 rw [List.getElem_map,encI] at aM
 obtain ⟨us,rfl,iV⟩:=cl.int aM
 obtain rfl:=iV.no
 exact ⟨b,off,aF,fun aa e=>by simpa using gH aa e 0 (by omega)⟩
def ik (n:Nat) (b:aN):aN:=aG (n+cB b)
mutual
def V.cA (n:Nat):V→V
 | .ptr b o=>.ptr (ik n b) o
 | .slice b o l c=>.slice (ik n b) o l c
 | .dQ b o l c=>.dQ (ik n b) o l c
 | .fA b o l c=>.fA (ik n b) o l c
 | .map b=>.map (ik n b)
 | .func f cs=>.func f (ij n cs)
 | .jR f cs=>.jR f (ij n cs)
 | .iface t v=>.iface t (v.cA n)
 | .agg cs=>.agg (ij n cs)
 | .tuple cs=>.tuple (ij n cs)
 | .bad=>.bad | .bool b=>.bool b | .int k i=>.int k i | .str s=>.str s | .jn=>.jn | .cq=>.cq | .iK=>.iK | .iJ=>.iJ | .nilIface=>.nilIface
def ij (n:Nat):List V→List V
 | []=>[]
 | v::ab=>v.cA n::ij n ab
end
theorem L7 (n:Nat):∀l:List V,ij n l=l.map (V.cA n)
 | []=>by simp [ij]
 | v::l=>by rw [ij,L7 n l,List.map_cons]
def bW.cA (n:Nat) (m:bW):bW:=⟨m.k.cA n,m.v.cA n,m.born⟩
noncomputable def bS.cA (n:Nat):bS→bS
 | .cells m cs cj st=>.bk ((fP cs 0 m).map (V.cA n)) cj st
 | .iter s pos=>.iter s pos
 | .mp es clock=>.mp (es.map (bW.cA n)) clock
 | .gb es=>.gb (es.map (bW.cA n))
 | _=>.dead
noncomputable def ae.mR (h aq:ae):Nat→ae
 | 0=>h
 | k+1=>(h.mR aq k).new ((aq.get (aG k)).cA h.next)
theorem su (h aq:ae):∀k,(h.mR aq k).next=h.next+k
 | 0=>rfl
 | k+1=>by rw [ae.mR,gn,su h aq k];omega
theorem Gl (h aq:ae):∀k,Ext h (h.mR aq k)
 | 0=>Ext.refl h
 | k+1=>(Gl h aq k).new _
theorem A0 (h aq:ae):∀(k i:Nat),i<k→(h.mR aq k).get (aG (h.next+i))=(aq.get (aG i)).cA h.next
 | 0,i,aC=>absurd aC (by omega)
 | k+1,i,aC=>by
   rw [ae.mR,gv,su]
   by_cases e:i=k
   · subst e;rw [if_pos rfl]
   · rw [if_neg (fun q=>e (by have:=gB q;omega)),A0 h aq k i (by omega)]
theorem Gm (h aq:ae) (b:aN):∀(k:Nat),(cB b<h.next∨h.next+k≤cB b)→(h.mR aq k).get b=h.get b
 | 0,_=>rfl
 | k+1,af=>by
   rw [ae.mR,gv,su,if_neg (fun q=>by subst q;rw [dV] at af;omega)]
   exact Gm h aq b k (by omega)
noncomputable def ae.app (h aq:ae):ae:=h.mR aq aq.next
noncomputable def lb (h aq:ae) (E bM:Env):Env:=fun b=>if h.next≤cB b∧cB b<h.next+aq.next then bM (aG (cB b-h.next)) else E b
section
variable {au:Fr} {E bM:Env} {h aq:ae} {w bH:World}
theorem AZ (s:aW au E h w):E.le (lb h aq E bM):=fun b p q=>by
 unfold lb
 rw [if_neg]
 · exact q
 · rintro ⟨U,_⟩
   have:=s.fresh (cB b) U
   rw [rO] at this
   rw [this] at q;cases q
theorem nQ (s2:aW ⟨w,fun _=>none⟩ bM aq bH) {b:aN} {p:gO} (q:bM b=some p):lb h aq E bM (ik h.next b)=some p:=by
 unfold lb ik
 have aO:cB b<aq.next:=by
  rcases Nat.lt_or_ge (cB b) aq.next with ay | ay
  · exact ay
  · have:=s2.fresh _ ay
    rw [rO,q] at this;cases this
 rw [dV,if_pos ⟨by omega,by omega⟩,show h.next+cB b-h.next=cB b from by omega,rO]
 exact q
mutual
theorem oN (s2:aW ⟨w,fun _=>none⟩ bM aq bH):∀(v:V) (x:Value),Rel bM v x→Rel (lb h aq E bM) (v.cA h.next) x
 | .bad,x,q=>by simp only [V.cA,Rel]
 | .bool _,x,q=>by simpa only [V.cA,Rel] using q
 | .int _ _,x,q=>by simpa only [V.cA,Rel] using q
 | .str _,x,q=>by simpa only [V.cA,Rel] using q
 | .jn,x,q=>by simpa only [V.cA,Rel] using q
 | .cq,x,q=>by simpa only [V.cA,Rel] using q
 | .iK,x,q=>by simpa only [V.cA,Rel] using q
 | .iJ,x,q=>by simpa only [V.cA,Rel] using q
 | .nilIface,x,q=>by simpa only [V.cA,Rel] using q
 | .ptr b o,x,q=>by
   simp only [V.cA,Rel] at q ⊢
   obtain ⟨p,ai,ay⟩:=q
   exact ⟨p,nQ s2 ai,ay⟩
 | .slice b o l c,x,q=>by
   simp only [V.cA,Rel] at q ⊢
   obtain ⟨p,ai,ay⟩:=q
   exact ⟨p,nQ s2 ai,ay⟩
 | .dQ b o l c,x,q=>by
   simp only [V.cA,Rel] at q ⊢
   obtain ⟨p,ai,ay⟩:=q
   exact ⟨p,nQ s2 ai,ay⟩
 | .fA b o l c,x,q=>by simpa only [V.cA,Rel] using q
 | .map b,x,q=>by
   simp only [V.cA,Rel] at q ⊢
   obtain ⟨p,ai,ay⟩:=q
   exact ⟨p,nQ s2 ai,ay⟩
 | .func f cs,x,q=>by
   simp only [V.cA,Rel] at q ⊢
   rcases q with ⟨ai,a,ay,aK⟩ | ⟨ai,b,p,rfl,aK,bE⟩
   · exact .inl ⟨ai,a,ay,wI s2 cs _ aK⟩
   · exact .inr ⟨ai,ik h.next b,p,by simp only [ij,V.cA],nQ s2 aK,bE⟩
 | .jR f cs,x,q=>by
   simp only [V.cA,Rel] at q ⊢
   obtain ⟨ai,a,ay,aK⟩:=q
   exact ⟨ai,a,ay,wI s2 cs _ aK⟩
 | .iface t v,x,q=>by
   simp only [V.cA,Rel] at q ⊢
   obtain ⟨y,ai,ay⟩:=q
   exact ⟨y,ai,oN s2 v y ay⟩
 | .agg cs,x,q=>by
   simp only [V.cA,Rel] at q ⊢
   obtain ⟨a,ai,ay⟩:=q
   exact ⟨a,ai,wI s2 cs _ ay⟩
 | .tuple cs,x,q=>by
   simp only [V.cA,Rel] at q ⊢
   obtain ⟨a,ai,ay⟩:=q
   exact ⟨a,ai,wI s2 cs _ ay⟩
theorem wI (s2:aW ⟨w,fun _=>none⟩ bM aq bH):∀(v:List V) (x:List Value),aZ bM v x→aZ (lb h aq E bM) (ij h.next v) x
 | [],x,q=>by simpa only [ij,aZ] using q
 | v::ab,x,q=>by
   simp only [ij,aZ] at q ⊢
   obtain ⟨y,bZ,ai,ay,aK⟩:=q
   exact ⟨y,bZ,ai,oN s2 v y ay,wI s2 ab bZ aK⟩
end
theorem KC (s2:aW ⟨w,fun _=>none⟩ bM aq bH):∀(v:List bW) (x:List MapEntry),df bM v x→df (lb h aq E bM) (v.map (bW.cA h.next)) x
 | [],x,q=>by simpa only [List.map_nil,df] using q
 | v::ab,x,q=>by
   simp only [List.map_cons,df,bW.cA] at q ⊢
   obtain ⟨y,bZ,ai,ay,aK,bE,dr⟩:=q
   exact ⟨y,bZ,ai,oN s2 _ _ ay,oN s2 _ _ aK,bE,KC s2 ab bZ dr⟩
theorem MG (s2:aW ⟨w,fun _=>none⟩ bM aq bH):∀(v:List bW) (x:List MapEntry),iv bM v x→iv (lb h aq E bM) (v.map (bW.cA h.next)) x
 | [],x,q=>by simpa only [List.map_nil,iv] using q
 | v::ab,x,q=>by
   simp only [List.map_cons,iv,bW.cA] at q ⊢
   obtain ⟨y,bZ,ai,ay,aK,dr⟩:=q
   exact ⟨y,bZ,ai,oN s2 _ _ ay,oN s2 _ _ aK,MG s2 ab bZ dr⟩
theorem yd (cs:T V):∀(n off i:Nat),i<n→(fP cs off n)[i]? =some (T.get .bad (aG (off+i)) cs)
 | 0,_,i,aC=>absurd aC (by omega)
 | n+1,off,0,_=>by simp [fP]
 | n+1,off,i+1,aC=>by
   rw [fP,List.getElem?_cons_succ,yd cs n (off+1) i (by omega)]
   congr 3
   omega
theorem Oo (hw:au.w.heap.size≤w.heap.size) (s2:aW ⟨w,fun _=>none⟩ bM aq bH) {b:aN} {k:bS} (H:e7 w.heap.size bM bH b k):e7 au.w.heap.size (lb h aq E bM) bH (ik h.next b) (k.cA h.next):=by
 cases k with
 | cells n cs cj st=>
   obtain ⟨a7,p,c,el,bF,U,ad,aI,bq,ct,fY,hN⟩:=H
   have aj:((fP cs 0 n).map (V.cA h.next)).length=n:=by rw [List.length_map,qW]
   refine ⟨by rw [aj];exact a7,p,c,el,bF,nQ s2 U,Nat.le_trans hw ad,aI,bq,ct,fY,by rw [aj];exact hN.1,fun i y aC a1=>?_⟩
   rw [aj] at aC
   have:=yc ((fP cs 0 n).map (V.cA h.next)) 0 i .e
   rw [Nat.zero_add,if_pos (by rw [aj];exact aC),List.getElem?_map,yd cs n 0 i aC] at this
   rw [this]
   simp only [Option.map_some,Option.getD_some,Nat.zero_add]
   exact oN s2 _ _ (hN.2 i y aC a1)
 | iter st pos=>
   obtain ⟨p,U,ad,aI⟩:=H
   exact ⟨p,nQ s2 U,Nat.le_trans hw ad,aI⟩
 | mp es clock=>
   obtain ⟨p,a,U,ad,aI,bq⟩:=H
   exact ⟨p,a,nQ s2 U,Nat.le_trans hw ad,aI,KC s2 _ _ bq⟩
 | gb es=>
   obtain ⟨p,a,c,l,U,ad,aI,bq,ct⟩:=H
   exact ⟨p,a,c,l,nQ s2 U,Nat.le_trans hw ad,aI,MG s2 _ _ bq,ct⟩
 | _=>trivial
theorem zs {k:bS} {n:Nat} (H:(k.cA n).own=true):k.own=true:=by
 cases k<;>simp_all [bS.cA,bS.own]
theorem K5 {B:Nat} {b:aN} {k:bS} {p:gO} (H:e7 B E w b k) (aP:k.own=true) (q:E b=some p):B≤p.bd∧p.bd<w.heap.size:=by
 have lt:∀{o:Obj},w.heap[p.bd]? =some o→p.bd<w.heap.size:=fun {o} q=>by
  rcases Nat.lt_or_ge p.bd w.heap.size with ay | ay
  · exact ay
  · rw [Array.getElem?_eq_none ay] at q;cases q
 cases k with
 | cells n cs cj st=>
   obtain ⟨_,p',c,el,bF,U,ad,aI,_⟩:=H
   rw [q] at U;cases U
   exact ⟨ad,lt aI⟩
 | iter st pos=>
   obtain ⟨p',U,ad,_,aI⟩:=H
   rw [q] at U;cases U
   exact ⟨ad,lt aI⟩
 | mp es clock=>
   obtain ⟨p',a,U,ad,aI,_⟩:=H
   rw [q] at U;cases U
   exact ⟨ad,lt aI⟩
 | gb es=>
   obtain ⟨p',a,c,l,U,ad,aI,_⟩:=H
   rw [q] at U;cases U
   exact ⟨ad,lt aI⟩
 | dq l=>
   obtain ⟨p',o,U,ad,aI,_⟩:=H
   rw [q] at U;cases U
   exact ⟨ad,lt aI⟩
 | eX=>
   obtain ⟨p',U,ad,aI⟩:=H
   rw [q] at U;cases U
   exact ⟨ad,lt aI⟩
 | gW src since seen last=>
   obtain ⟨p',m,a,U,ad,_,aI,_⟩:=H
   rw [q] at U;cases U
   exact ⟨ad,lt aI⟩
 | dead=>cases aP
 | view n cs=>cases aP
theorem L' (s:aW au E h w) (s2:aW ⟨w,fun _=>none⟩ bM aq bH):aW au (lb h aq E bM) (h.app aq) bH:=by
 have L2:=s.below s2.frame
 have hw:au.w.heap.size≤w.heap.size:=s.frame.size
 have cs:∀b,(h.next≤cB b∧cB b<h.next+aq.next∧∃i,i<aq.next∧b=ik h.next (aG i)∧(h.app aq).get b=(aq.get (aG i)).cA h.next∧lb h aq E bM b=bM (aG i))∨
  ((cB b<h.next∨h.next+aq.next≤cB b)∧(h.app aq).get b=h.get b∧lb h aq E bM b=E b):=fun b=>by
  by_cases q:h.next≤cB b∧cB b<h.next+aq.next
  · refine .inl ⟨q.1,q.2,cB b-h.next,by omega,?_,?_,if_pos q⟩
    · unfold ik
      rw [dV,show h.next + (cB b-h.next)=cB b from by omega,rO]
    · have:=A0 h aq aq.next (cB b-h.next) (by omega)
      rw [show h.next + (cB b-h.next)=cB b from by omega,rO] at this
      exact this
  · exact .inr ⟨by omega,Gm h aq b _ (by omega),if_neg q⟩
 have KW:∀b p,(h.get b).own=true→E b=some p→p.bd<w.heap.size:=fun b p aP q=>by
  have af:e7 au.w.heap.size E w b (h.get b):=s.at q
  exact (K5 af aP q).2
 have KG:∀i p,(aq.get (aG i)).own=true→bM (aG i)=some p→w.heap.size≤p.bd:=fun i p aP q=>(K5 (s2.bd _ rfl) aP q).1
 refine ⟨fun b af=>?_,fun b k az=>?_,fun b bz p p' cQ cD aF aM ag=>?_,fun i aC=>?_,L2.frame,s.laid,fun b p n c st aD he=>?_⟩
 · rcases cs b with ⟨_,_,i,aC,rfl,aF,aM⟩ | ⟨_,aF,aM⟩
   · rw [aF]
     exact Oo hw s2 (s2.bd _ rfl)
   · rw [aF]
     exact (L2.bd b af).mono (AZ s)
 · obtain ⟨ai,ay,i,aC,rfl⟩:=s.lH b k az
   rcases cs (aG i) with ⟨bB,_⟩ | ⟨_,aF,aM⟩
   · rw [dV] at bB;omega
   · refine ⟨aF.trans ai,aM.trans ay,i,?_,rfl⟩
     show i < (h.mR aq aq.next).next
     rw [su];omega
 · rcases cs b with ⟨_,_,i,aC,rfl,g1,g2⟩ | ⟨_,g1,g2⟩<;>rcases cs bz with ⟨_,_,j,bG,rfl,g3,g4⟩ | ⟨_,g3,g4⟩
   · rw [g1] at cQ;rw [g3] at cD;rw [g2] at aF;rw [g4] at aM
     rw [s2.inj _ _ _ _ (zs cQ) (zs cD) aF aM ag]
   · rw [g1] at cQ;rw [g3] at cD;rw [g2] at aF;rw [g4] at aM
     have a:=KG _ _ (zs cQ) aF
     have b:=KW _ _ cD aM
     omega
   · rw [g1] at cQ;rw [g3] at cD;rw [g2] at aF;rw [g4] at aM
     have a:=KG _ _ (zs cD) aM
     have b:=KW _ _ cQ aF
     omega
   · rw [g1] at cQ;rw [g3] at cD;rw [g2] at aF;rw [g4] at aM
     exact s.inj _ _ _ _ cQ cD aF aM ag
 · have a7:(h.app aq).next=h.next+aq.next:=su h aq aq.next
   rw [a7] at aC
   rcases cs (aG i) with ⟨bB,bX,_⟩ | ⟨_,aF,aM⟩
   · rw [dV] at bX;omega
   · rw [aM];exact s.fresh i (by omega)
 · rcases cs b with ⟨_,_,i,aC,rfl,g1,g2⟩ | ⟨_,g1,g2⟩
   · rw [g2] at he
     cases az:aq.get (aG i) with
     | cells hD fB ac5 adX=>
       rw [g1,az] at aD
       simp only [bS.cA,bS.bk,bS.cells.injEq] at aD
       obtain ⟨_,_,q,_⟩:=aD
       subst q
       exact s2.base _ _ _ _ _ az he
     | _=>rw [g1,az] at aD;simp [bS.cA] at aD
   · rw [g1] at aD;rw [g2] at he
     exact s.base _ _ _ _ _ aD he
end
theorem Ry {C:Ctx} (cO:C.P.follows .mixedOrders=true) (bt:dJ C.P) (fh:lT C) {n:Nat} {f:FuncId} {aq:ae} {v:V} (ax:Nat.beq f cJ=false) (ao:C.ext f=none) (gk:∃fn,C.P.funcs[f]? =some fn∧fn.body.isSome=true)
 (he:nZ C n f [] ae.empty=.val v aq) (h:ae):eh C.P f [] h (v.cA h.next) (h.app aq):=by
 refine ⟨fun e=>by subst e;simp at ax,.inl ⟨gk,fun au E w xs aj s=>?_⟩⟩
 simp only [aZ] at aj
 subst aj
 obtain ⟨_,hx⟩:=B2 cO bt fh ax ao he (au:=⟨w,fun _=>none⟩) (E:=fun _=>none) (w:=w) (xs:=[]) rfl (zY w (Lay.fH s.laid s.frame))
 refine hx.mono fun e ak aE=>?_
 obtain ⟨ar,x,rfl,_,ay,aK⟩:=aE
 exact ⟨_,x,rfl,AZ s,oN aK _ _ ay,L' s aK⟩
theorem NV (h aq:ae):Ext h (h.app aq):=Gl h aq _
theorem Gp (h aq:ae) {i:Nat} (aC:i<aq.next):(h.app aq).get (aG (h.next+i))=(aq.get (aG i)).cA h.next:=A0 h aq _ i aC
theorem Gq (h aq:ae):(h.app aq).next=h.next+aq.next:=su h aq _
end Go.Proofs.YtkehcalakofigaaGreatDoor.aY
namespace Go.Proofs.YtkehcalakofigaaGreatDoor.aY
variable [Lay]
open Go Go.RowKit
def D':IntKind→IntKind→Bool
 | .i8,.i8 | .i16,.i16 | .i32,.i32 | .i64,.i64 | .u8,.u8 | .u16,.u16 | .u32,.u32 | .u64,.u64=>true
 | _,_=>false
theorem JW {a b:IntKind} (h:D' a b=true):a=b:=by cases a<;>cases b<;>first | rfl | cases h
def pI:Int→Int→Bool
 | .ofNat a,.ofNat b=>Nat.beq a b
 | .negSucc a,.negSucc b=>Nat.beq a b
 | _,_=>false
theorem yP {a b:Int} (h:pI a b=true):a=b:=by
 cases a<;>cases b<;>simp only [pI] at h<;>first | (rw [Nat.eq_of_beq_eq_true h]) | (cases h)
def GB:Bool→Bool→Bool
 | true,true | false,false=>true
 | _,_=>false
theorem Od {a b:Bool} (h:GB a b=true):a=b:=by cases a<;>cases b<;>first | rfl | cases h
def zX:List UInt8→List UInt8→Bool
 | [],[]=>true
 | a::sy,b::dX=>Nat.beq a.toNat b.toNat&&zX sy dX
 | _,_=>false
theorem L1:∀{a b:List UInt8},zX a b=true→a=b
 | [],[],_=>rfl
 | [],_::_,h=>by cases h
 | _::_,[],h=>by cases h
 | a::sy,b::dX,h=>by
   simp only [zX,Bool.and_eq_true] at h
   rw [L1 h.2,UInt8.toNat_inj.1 (Nat.eq_of_beq_eq_true h.1)]
def zj (jx:List D→List V→Bool) (size:Nat):List (List D)→List V→Bool
 | [],ll=>(match ll with | []=>true | _=>false)
 | e::es,ll=>Nat.beq (ll.take size).length size&&jx e (ll.take size)&&zj jx size es (ll.drop size)
noncomputable def EH (aq:ae) (jx:List D→List V→Bool) (size:Nat) (es:List (List D)):V→Bool
 | .cq=>(match es with | []=>true | _=>false)
 | .slice b off len cap=>Nat.beq len es.length&&Nat.ble len cap&&Nat.ble len top&&Nat.blt (cB b) aq.next&&(match aq.get b with
   | .cells n cs _ _=>Nat.ble (off+len * size) n&&zj jx size es (fP cs off (len * size))
   | _=>false)
 | _=>false
noncomputable def wj (aq:ae):Nat→List D→List V→Bool
 | 0,_,_=>false
 | f+1,ds,ab=>match ds with
   | []=>(match ab with | []=>true | _=>false)
   | d::ds=>match ab with
     | []=>false
     | v::ab=>(match d with
       | .i k n=>(match v with | .int bl hD=>D' k bl&&pI n hD | _=>false)
       | .b x=>(match v with | .bool y=>GB x y | _=>false)
       | .s x=>(match v with | .str y=>zX x y&&Nat.ble x.length top | _=>false)
       | .l size es=>EH aq (wj aq f) size es v)&&wj aq f ds ab
section
variable {h aq:ae}
def pV (h aq:ae) (b:aN):Prop:=h.next≤cB b∧cB b<h.next+aq.next
theorem KT {jx:List D→List V→Bool} {size:Nat}:∀{es:List (List D)} {ll:List V},zj jx size es ll=true→
 ∃us:List (List V),ll=us.flatten∧us.length=es.length∧(∀u ∈ us,u.length=size)∧∀(i:Nat) (e:List D) (u:List V),es[i]? =some e→us[i]? =some u→jx e u=true
 | [],ll,H=>by
   cases ll with
   | nil=>exact ⟨[],rfl,rfl,fun u q=>(by cases q),fun i e u q=>(by simp at q)⟩
   | cons _ _=>cases H
 | e::es,ll,H=>by
   simp only [zj,Bool.and_eq_true] at H
   obtain ⟨us,ai,ay,aK,bE⟩:=KT H.2
   refine ⟨ll.take size::us,by rw [List.flatten_cons,←ai,List.take_append_drop],by simp [ay],fun u hu=>?_,fun i x u aF aM=>?_⟩
   · rcases List.mem_cons.1 hu with rfl | hu
     · exact Nat.eq_of_beq_eq_true H.1.1
     · exact aK u hu
   · cases i with
     | zero=>
       simp only [List.getElem?_cons_zero,Option.some.injEq] at aF aM
       subst aF aM
       exact H.1.2
     | succ i=>exact bE i x u (by simpa using aF) (by simpa using aM)
theorem S9 (cs:T V) (n off m:Nat) (hm:off+m≤n):((fP cs 0 n).drop off).take m=fP cs off m:=by
 apply List.ext_getElem?
 intro i
 by_cases aC:i<m
 · rw [List.getElem?_take_of_lt aC,List.getElem?_drop,yd cs n 0 _ (by omega),yd cs m off i aC,Nat.zero_add]
 · rw [List.getElem?_eq_none (by rw [List.length_take,List.length_drop,qW];omega),List.getElem?_eq_none (by rw [qW];omega)]
theorem Zl {jx:List D→List V→Bool} (az:∀ds ab,jx ds ab=true→cl (pV h aq) (h.app aq) ds (ij h.next ab)) {size:Nat} {es:List (List D)} {v:V} (H:EH aq jx size es v=true):
 cM (pV h aq) (h.app aq) size es (v.cA h.next):=by
 cases v<;>simp only [EH] at H<;>try (cases H;done)
 case cq=>
  cases es with
  | nil=>exact cM.nil _ _ _
  | cons _ _=>cases H
 case slice b off len cap=>
  simp only [Bool.and_eq_true] at H
  obtain ⟨⟨⟨⟨U,ad⟩,aI⟩,bq⟩,ct⟩:=H
  have U:=Nat.eq_of_beq_eq_true U
  have ad:=Nat.le_of_ble_eq_true ad
  have aI:=Nat.le_of_ble_eq_true aI
  have bq:cB b<aq.next:=Nat.le_of_ble_eq_true bq
  cases aD:aq.get b<;>rw [aD] at ct<;>simp only at ct<;>try (cases ct;done)
  rename_i n cs cj st
  simp only [Bool.and_eq_true] at ct
  have fY:=Nat.le_of_ble_eq_true ct.1
  obtain ⟨us,ai,ay,aK,bE⟩:=KT ct.2
  subst U
  have oe:(h.app aq).get (ik h.next b)=.bk ((fP cs 0 n).map (V.cA h.next)) cj st:=by
   have:=Gp h aq bq
   rw [rO,aD] at this
   exact this
  have hP:(us.map (List.map (V.cA h.next))).flatten=us.flatten.map (V.cA h.next):=by rw [List.map_flatten]
  have hlen:us.flatten.length=es.length * size:=by rw [←ai,qW]
  refine ⟨fun bz o l c e=>(by cases e;exact ad),aI,⟨us.map (List.map (V.cA h.next)),⟨by rw [hP,List.length_map,hlen],rfl,?_,_,.inr ⟨cj,st,oe⟩,?_,?_⟩,by rw [List.length_map,ay],fun u hu=>?_,fun i e u aF aM=>?_⟩,fun bz q=>?_⟩
  · unfold Old ik
    rw [dV,Gq];omega
  · rw [hP,List.length_map,List.length_map,qW,hlen];exact fY
  · rw [hP,List.length_map,hlen,←List.map_drop,←List.map_take,S9 cs n off _ fY,ai]
  · obtain ⟨fo,fw,rfl⟩:=List.mem_map.1 hu
    rw [List.length_map];exact aK fo fw
  · rw [List.getElem?_map] at aM
    cases aE:us[i]? with
    | none=>rw [aE] at aM;cases aM
    | some fo=>
      rw [aE] at aM
      simp only [Option.map_some,Option.some.injEq] at aM
      subst aM
      rw [←L7]
      exact az _ _ (bE i e fo aF aE)
  · simp only [V.cA,V.bd] at q
    subst q
    unfold pV ik
    rw [dV]
    exact ⟨by omega,by omega⟩
theorem EF:∀{f:Nat} {ds:List D} {ab:List V},wj aq f ds ab=true→cl (pV h aq) (h.app aq) ds (ij h.next ab)
 | 0,_,_,H=>by cases H
 | f+1,ds,ab,H=>by
   cases ds with
   | nil=>
     cases ab with
     | nil=>exact .nil
     | cons _ _=>cases H
   | cons d ds=>
     cases ab with
     | nil=>cases H
     | cons v ab=>
       simp only [wj,Bool.and_eq_true] at H
       have t:=EF (f:=f) H.2
       have H1:=H.1
       rw [ij]
       cases d with
       | i k n=>
         cases v<;>simp only at H1<;>try (cases H1;done)
         simp only [Bool.and_eq_true] at H1
         rw [JW H1.1,yP H1.2]
         simp only [V.cA]
         exact .i t
       | b x=>
         cases v<;>simp only at H1<;>try (cases H1;done)
         rw [Od H1]
         simp only [V.cA]
         exact .b t
       | s x=>
         cases v<;>simp only at H1<;>try (cases H1;done)
         simp only [Bool.and_eq_true] at H1
         rw [←L1 H1.1]
         simp only [V.cA]
         exact .s (Nat.le_of_ble_eq_true H1.2) t
       | l size es=>exact (Zl (fun ds ab q=>EF (f:=f) q) H1).cons t
end
end Go.Proofs.YtkehcalakofigaaGreatDoor.aY
namespace Go.Proofs.YtkehcalakofigaaGreatDoor.aY
variable [Lay]
open Go Go.RowKit
def ko (k:Int):List (Int × List D)→Option (List D)
 | []=>none
 | (n,d)::l=>if k=n then some d else ko k l
inductive js (F:aN→Prop) (h:ae):List (Int × List D)→List bW→Prop
 | nil:js F h [] []
 | cons {n:Int} {ds:List D} {y:V} {born:Nat} {dI:List (Int × List D)} {es:List bW} (aV:cl F h ds y.cells) (t:js F h dI es):js F h ((n,ds)::dI) (⟨.int .i64 n,y,born⟩::es)
structure k8 (F:aN→Prop) (h:ae) (dI:List (Int × List D)) (v:V):Prop where
 ex:∃b es,v=.map b∧Old h b∧((∃clock,h.get b=.mp es clock)∨h.get b=.gb es∧(dI.map Prod.fst).Nodup)∧js F h dI es∧F b
section
variable {F:aN→Prop} {h aa:ae} {dI:List (Int × List D)} {es:List bW} {v:V}
theorem js.ext (H:js F h dI es) (e:Ext h aa):js F aa dI es:=by
 induction H with
 | nil=>exact .nil
 | cons aV t bh=>exact .cons (aV.ext e) bh
theorem k8.ext (H:k8 F h dI v) (e:Ext h aa):k8 F aa dI v:=by
 obtain ⟨b,es,ai,ay,aK,bE,dr⟩:=H.ex
 exact ⟨b,es,ai,e.b2 ay,by rw [e.get b ay];exact aK,bE.ext e,dr⟩
theorem LX (k n:Int):jA.run (.int .i64 k) (.int .i64 n)=some (decide (k=n)):=by
 simp only [jA,V.dz,l3,cond_true,xV]
theorem js.jB (H:js F h dI es) (k:Int):(ko k dI=none∧jB jA (.int .i64 k) es=some none)∨∃ds y,ko k dI=some ds∧cl F h ds y.cells∧Go.Proofs.YtkehcalakofigaaGreatDoor.aY.jB jA (.int .i64 k) es=some (some y):=by
 induction H with
 | nil=>exact .inl ⟨rfl,rfl⟩
 | @cons n ds y born dI es aV t bh=>
   simp only [ko,Go.Proofs.YtkehcalakofigaaGreatDoor.aY.jB,LX]
   by_cases q:k=n
   · subst q
     simp only [if_true,decide_true,cond_true]
     exact .inr ⟨ds,y,rfl,aV,rfl⟩
   · simp only [q,if_false,decide_false,cond_false]
     exact bh
theorem Kv {k:Int} {ds:List D}:∀{dI:List (Int × List D)},ko k dI=some ds→k ∈ dI.map Prod.fst
 | [],h=>by cases h
 | (n,d)::l,h=>by
   simp only [ko] at h
   by_cases q:k=n
   · subst q;simp
   · rw [if_neg q] at h
     simp only [List.map_cons,List.mem_cons]
     exact .inr (Kv h)
theorem js.j' (H:js F h dI es) (a7:(dI.map Prod.fst).Nodup) (k:Int):(ko k dI=none∧j' jA (.int .i64 k) es=some none)∨∃ds y,ko k dI=some ds∧cl F h ds y.cells∧Go.Proofs.YtkehcalakofigaaGreatDoor.aY.j' jA (.int .i64 k) es=some (some y):=by
 induction H with
 | nil=>exact .inl ⟨rfl,rfl⟩
 | @cons n ds y born dI es aV t bh=>
   simp only [List.map_cons,List.nodup_cons] at a7
   have bh:=bh a7.2
   simp only [ko,Go.Proofs.YtkehcalakofigaaGreatDoor.aY.j',LX]
   by_cases q:k=n
   · subst q
     rcases bh with ⟨_,e⟩ | ⟨_,_,e,_⟩
     · simp only [e,if_true,decide_true,cond_true]
       exact .inr ⟨ds,y,rfl,aV,rfl⟩
     · exact absurd (Kv e) a7.1
   · rcases bh with ⟨aF,e⟩ | ⟨kG,o6,aF,aM,e⟩
     · simp only [e,q,if_false,decide_false,cond_false]
       exact .inl ⟨aF,trivial⟩
     · simp only [e,q,if_false,decide_false,cond_false]
       exact .inr ⟨kG,o6,aF,aM,rfl⟩
theorem k8.look (H:k8 F h dI v) (k:Int) (z:V) (ok:Bool):(ko k dI=none∧jk jA z ok h v (.int .i64 k)=some (bif ok then .tuple [z,.bool false] else z))∨
 ∃ds y,ko k dI=some ds∧cl F h ds y.cells∧jk jA z ok h v (.int .i64 k)=some (bif ok then .tuple [y,.bool true] else y):=by
 obtain ⟨b,es,rfl,_,aK,bE,_⟩:=H.ex
 rcases aK with ⟨clock,aK⟩ | ⟨aK,a7⟩
 · rcases bE.jB k with ⟨aF,e⟩ | ⟨ds,y,aF,aM,e⟩
   · exact .inl ⟨aF,by simp only [jk,aK,nv,oH,bS.iM,e]⟩
   · exact .inr ⟨ds,y,aF,aM,by simp only [jk,aK,nv,oH,bS.iM,e]⟩
 · rcases bE.j' a7 k with ⟨aF,e⟩ | ⟨ds,y,aF,aM,e⟩
   · exact .inl ⟨aF,by simp only [jk,aK,e]⟩
   · exact .inr ⟨ds,y,aF,aM,by simp only [jk,aK,e]⟩
end
noncomputable def wk (aq:ae) (f:Nat):List (Int × List D)→List bW→Bool
 | [],es=>(match es with | []=>true | _=>false)
 | (n,ds)::dI,es=>(match es with
   | []=>false
   | m::es=>(match m.k with | .int k i=>D' k .i64&&pI i n | _=>false)&&wj aq f ds m.v.cells&&wk aq f dI es)
def zf:List Int→Bool
 | []=>true
 | n::l=>(l.all fun m=>!pI n m)&&zf l
noncomputable def zk (aq:ae) (f:Nat) (dI:List (Int × List D)):V→Bool
 | .map b=>Nat.blt (cB b) aq.next&&zf (dI.map Prod.fst)&&(match aq.get b with
   | .mp es _=>wk aq f dI es
   | .gb es=>wk aq f dI es
   | _=>false)
 | _=>false
theorem VI:∀n:Int,pI n n=true
 | .ofNat a=>Nat.beq_refl a
 | .negSucc a=>Nat.beq_refl a
theorem KI:∀{l:List Int},zf l=true→l.Nodup
 | [],_=>List.nodup_nil
 | n::l,h=>by
   simp only [zf,Bool.and_eq_true] at h
   refine List.nodup_cons.2 ⟨fun q=>?_,KI h.2⟩
   have:=List.all_eq_true.1 h.1 n q
   rw [VI] at this
   cases this
theorem Ro (n:Nat) (v:V):(v.cA n).cells=ij n v.cells:=by
 cases v<;>simp only [V.cA,V.cells,ij]
section
variable {h aq:ae}
theorem EG {f:Nat}:∀{dI:List (Int × List D)} {es:List bW},wk aq f dI es=true→js (pV h aq) (h.app aq) dI (es.map (bW.cA h.next))
 | [],es,H=>by
   cases es with
   | nil=>exact .nil
   | cons _ _=>cases H
 | (n,ds)::dI,es,H=>by
   cases es with
   | nil=>cases H
   | cons m es=>
     simp only [wk,Bool.and_eq_true] at H
     obtain ⟨⟨U,ad⟩,aI⟩:=H
     obtain ⟨mk,dc,born⟩:=m
     cases mk<;>simp only at U<;>try (cases U;done)
     simp only [Bool.and_eq_true] at U
     rw [JW U.1,yP U.2,List.map_cons]
     simp only [bW.cA,V.cA]
     exact .cons (by rw [Ro];exact EF ad) (EG aI)
theorem Zk {f:Nat} {dI:List (Int × List D)} {v:V} (H:zk aq f dI v=true):k8 (pV h aq) (h.app aq) dI (v.cA h.next):=by
 cases v<;>simp only [zk] at H<;>try (cases H;done)
 rename_i b
 simp only [Bool.and_eq_true] at H
 obtain ⟨⟨U,ad⟩,aI⟩:=H
 have U:cB b<aq.next:=Nat.le_of_ble_eq_true U
 have aD:=Gp h aq U
 rw [rO] at aD
 have af:pV h aq (ik h.next b):=by unfold pV ik;rw [dV];exact ⟨by omega,by omega⟩
 have aP:Old (h.app aq) (ik h.next b):=by unfold Old ik;rw [dV,Gq];omega
 cases az:aq.get b<;>rw [az] at aI<;>simp only at aI<;>try (cases aI;done)
 · rw [az] at aD
   exact ⟨_,_,rfl,aP,.inl ⟨_,aD⟩,EG aI,af⟩
 · rw [az] at aD
   exact ⟨_,_,rfl,aP,.inr ⟨aD,KI ad⟩,EG aI,af⟩
end
end Go.Proofs.YtkehcalakofigaaGreatDoor.aY
namespace Go.Proofs.YtkehcalakofigaaGreatDoor.aY
variable [Lay]
open Go Go.RowKit
theorem js.mK {F de:aN→Prop} {h:ae} {dI:List (Int × List D)} {es:List bW} (H:js F h dI es) (w:∀b,F b→de b):js de h dI es:=by
 induction H with
 | nil=>exact .nil
 | cons aV t bh=>exact .cons (aV.mK w) bh
theorem k8.mK {F de:aN→Prop} {h:ae} {dI:List (Int × List D)} {v:V} (H:k8 F h dI v) (w:∀b,F b→de b):k8 de h dI v:=by
 obtain ⟨b,es,ai,ay,aK,bE,dr⟩:=H.ex
 exact ⟨b,es,ai,ay,aK,bE.mK w,w b dr⟩
noncomputable def zl (C:Ctx) (n:Nat) (f:FuncId) (jx:ae→V→Bool):Bool:=match nZ C n f [] ae.empty with
 | .val v aq=>jx aq v
 | _=>false
def Gb (h:ae) (b:aN):Prop:=h.next≤cB b
section
variable {C:Ctx} (cO:C.P.follows .mixedOrders=true) (bt:dJ C.P) (fh:lT C) {n:Nat} {f:FuncId} (ax:Nat.beq f cJ=false) (ao:C.ext f=none) (gk:∃fn,C.P.funcs[f]? =some fn∧fn.body.isSome=true)
include cO bt fh ax ao gk
theorem Rx {jx:ae→V→Bool} (H:zl C n f jx=true) (h:ae):∃v aq,jx aq v=true∧eh C.P f [] h (v.cA h.next) (h.app aq):=by
 unfold zl at H
 cases aq:nZ C n f [] ae.empty with
 | fail=>rw [aq] at H;cases H
 | b' _ _=>rw [aq] at H;cases H
 | val v a8=>
   rw [aq] at H
   exact ⟨v,a8,H,Ry cO bt fh ax ao gk aq h⟩
theorem Rw {m:Nat} {dI:List (Int × List D)} (H:zl C n f (fun aq v=>zk aq m dI v)=true) (h:ae):bK C.P f [] h fun x aa=>Ext h aa∧k8 (Gb h) aa dI x:=by
 obtain ⟨v,aq,q,c⟩:=Rx cO bt fh ax ao gk H h
 exact ⟨_,_,c,NV _ _,(Zk q).mK fun b q=>q.1⟩
end
end Go.Proofs.YtkehcalakofigaaGreatDoor.aY
