/- The abstract machine and its walks (a verified interpreter of the model's code: plain definitions and lemmas, no condition). Printed by a program from longer texts: names made short. -/
import Derived.Test.YtkehcalakofigaaGreatDoorM4
import Derived.ChangeBears
import Derived.Carry
import Derived.OpenShut
import Derived.ChangeSame
import Derived.Test.YtkehcalakofigaaGreatDoorM3
import Derived.Handed
import Derived.HandedShaped
set_option linter.unusedSectionVars false
set_option linter.unusedSimpArgs false
set_option linter.unusedVariables false
namespace Go.Proofs.YtkehcalakofigaaGreatDoor.a1
variable [Lay]
open Go Go.RowKit
section
variable (P:Program)
def um:List Field→Nat→Option Nat
 | [],o=>some o
 | f::bO,o=>if f.offset=o then um bO (o+P.cellsOf f.type) else none
def r7:Bool:=(List.range P.types.size).all fun t=>match P.underlying t with
 | some (.struct bO)=>decide (um P bO.toList 0=some (P.cellsOf t))
 | _=>true
def c7 (h:ae):Nat→Nat→TypeId→List V→Prop
 | 0,_,_,_=>False
 | n+1,m,t,ab=>match P.underlying t with
   | some .bool=>∃b,ab=[.bool b]
   | some (.int k)=>∃i,ab=[.int k i]∧(Lit.int k i).wf=true
   | some .string=>∃s:List UInt8,ab=[.str s]∧s.length+1≤m
   | some (.slice e)=>1≤m∧(ab=[.cq]∨(∃b i j k,ab=[.fy b i j k])∨P.cellsOf e=0∨
      ∃b len cap,ab=[.slice b 0 len cap]∧0<len∧len≤cap∧Old h b∧∃us,Rd h b us∧us.length=len * P.cellsOf e∧∃ms:List Nat,ms.length=len∧ms.sum+1≤m∧
       ∀(i k:Nat),ms[i]? =some k→1≤k∧c7 h n k e ((us.drop (i * P.cellsOf e)).take (P.cellsOf e)))
   | some (.struct bO)=>ab.length=P.cellsOf t∧∃ms:List Nat,ms.length=bO.toList.length∧ms.sum+1≤m∧∀(i:Nat) (f:Field) (k:Nat),bO.toList[i]? =some f→ms[i]? =some k→1≤k∧c7 h n k f.type ((ab.drop f.offset).take (P.cellsOf f.type))
   | some (.pointer e)=>1≤m∧(ab=[.ju]∨P.cellsOf e=0∨∃b,ab=[.ptr b 0]∧Old h b∧∃us,Rd h b us∧us.length=P.cellsOf e∧∃k,k+1≤m∧c7 h n k e us)
   | some (.map _ _)=>ab=[.iR]∨ab=[.bad]
   | some (.interface _)=>ab=[.nilIface]∨ab=[.bad]
   | _=>True
end
theorem c7.ext {P:Program} {h aa:ae} (e:Ext h aa):∀(n m:Nat) (t:TypeId) (ab:List V),c7 P h n m t ab→c7 P aa n m t ab
 | 0,_,_,_,H=>H
 | n+1,m,t,ab,H=>by
   unfold c7 at H ⊢
   split at H<;>try exact H
   · refine ⟨H.1,?_⟩
     rcases H.2 with H | H | H | ⟨b,len,cap,U,ad,aI,cp,us,b_,cA,ms,fv,fD,jm⟩
     · exact .inl H
     · exact .inr (.inl H)
     · exact .inr (.inr (.inl H))
     · exact .inr (.inr (.inr ⟨b,len,cap,U,ad,aI,e.b0 cp,us,e.rd cp b_,cA,ms,fv,fD,fun i k aA=>⟨(jm i k aA).1,c7.ext e n _ _ _ (jm i k aA).2⟩⟩))
   · obtain ⟨U,ms,ad,aI,br⟩:=H
     exact ⟨U,ms,ad,aI,fun i f k ax aA=>⟨(br i f k ax aA).1,c7.ext e n _ _ _ (br i f k ax aA).2⟩⟩
   · refine ⟨H.1,?_⟩
     rcases H.2 with H | H | ⟨b,U,cp,us,b_,cA,k,fv,fD⟩
     · exact .inl H
     · exact .inr (.inl H)
     · exact .inr (.inr ⟨b,U,e.b0 cp,us,e.rd cp b_,cA,k,fv,c7.ext e n _ _ _ fD⟩)
mutual
def eK {H:Type}:DataW H→Nat
 | .lit (.string bytes)=>bytes.length+1
 | .lit _=>1
 | .nil=>1
 | .ptr d=>eK d+1
 | .slice elems spare=>jA elems+jA spare+1
 | .agg parts=>jA parts+1
 | .iface _ d=>eK d+1
 | .map entries=>xL entries+1
 | .held _=>1
def jA {H:Type}:List (DataW H)→Nat
 | []=>0
 | d::r=>eK d+jA r
def xL {H:Type}:List (Lit × DataW H)→Nat
 | []=>0
 | x::r=>Bf x+xL r
def Bf {H:Type}:Lit × DataW H→Nat
 | (.string bytes,d)=>bytes.length+eK d+1
 | (_,d)=>eK d+1
end
theorem n' {H:Type} (d:DataW H):1≤eK d:=by
 cases d with
 | lit l=>cases l<;>simp [eK]
 | _=>simp [eK]
theorem Be {H:Type}:∀l:List (DataW H),jA l=(l.map eK).sum
 | []=>by simp [jA]
 | d::r=>by simp only [jA,List.map_cons,List.sum_cons,Be r]
theorem xS {w:World} {base:Nat} {a:Addr} {n:Nat} {l:List Value} (h:w.cells? base a n=some l):l.length=n∧∀i,i<n→w.cell? (a.add i)=l[i]? :=by
 unfold World.cells? at h
 split at h
 · exact ⟨by simpa using mapM_some_length h,fun i aB=>mapM_some_get h i i (by simp [aB])⟩
 · cases h
theorem L2 {E av:Env} (he:E.le av) {ab:List V} {l:List Value} (H:aY E ab l):aY av ab l:=aY.mono he ab l H
section
variable {H:Type} {enc:TypeId × Value→H} {P:Program} {W:World} {base:Nat} {sp:Nat→Bool} {held:Bool}
def Lays (P:Program) (W:World) (n m:Nat) (t:TypeId) (cs:List Value):Prop:=
 ∀(E:Env) (h:ae),aW ⟨W,fun _=>none⟩ E h W→∃av aa ab,E.le av∧Ext h aa∧aW ⟨W,fun _=>none⟩ av aa W∧aY av ab cs∧ab.length=cs.length∧c7 P aa n m t ab
theorem Kn (n size:Nat) (e:TypeId):∀(pieces:List (List Value)) (ms:List Nat),ms.length=pieces.length→(∀(i:Nat) (l:List Value) (k:Nat),pieces[i]? =some l→ms[i]? =some k→l.length=size∧Lays P W n k e l)→
 ∀(E:Env) (h:ae),aW ⟨W,fun _=>none⟩ E h W→∃av aa us,E.le av∧Ext h aa∧aW ⟨W,fun _=>none⟩ av aa W∧aY av us pieces.flatten∧us.length=pieces.length * size∧
  ∀(i k:Nat),ms[i]? =some k→c7 P aa n k e ((us.drop (i * size)).take size)
 | [],[],_,_,E,h,s=>⟨E,h,[],fun _ _ q=>q,Ext.refl h,s,rfl,by simp,fun i k aB=>by simp at aB⟩
 | [],_::_,ai,_,_,_,_=>by simp at ai
 | _::_,[],ai,_,_,_,_=>by simp at ai
 | l::ls,m::ms,je,ah,E,h,s=>by
   obtain ⟨ai,H⟩:=ah 0 l m rfl rfl
   obtain ⟨eX,U,ab,bK,a2,a3,a4,a5,hB⟩:=H E h s
   obtain ⟨bN,ad,us,bL,ca,hS,j8,j9,qG⟩:=Kn n size e ls ms (by simpa using je) (fun i l k aj ay=>ah (i+1) l k (by simpa using aj) (by simpa using ay)) eX U a3
   refine ⟨bN,ad,ab++us,bK.trans bL,a2.trans ca,hS,?_,?_,?_⟩
   · rw [List.flatten_cons]
     exact aY.append (L2 bL a4) j8
   · rw [List.length_append,j9,a5,ai,List.length_cons,Nat.add_mul]
     omega
   · intro i k aB
     cases i with
     | zero=>
       rw [Nat.zero_mul,List.drop_zero,List.take_left' (by rw [a5,ai])]
       simp only [List.getElem?_cons_zero,Option.some.injEq] at aB
       subst aB
       exact c7.ext ca _ _ _ _ hB
     | succ i=>
       rw [Nat.add_mul,Nat.one_mul,Nat.add_comm,←List.drop_drop,List.drop_left' (by rw [a5,ai])]
       exact qG i k (by simpa using aB)
theorem Km (n:Nat):∀(bO:List Field) (ms:List Nat) (o bU:Nat) (cs:List Value),um P bO o=some bU→cs.length=bU→ms.length=bO.length→(∀(i:Nat) (f:Field) (k:Nat),bO[i]? =some f→ms[i]? =some k→Lays P W n k f.type ((cs.drop f.offset).take (P.cellsOf f.type)))→
 o≤bU∧∀(E:Env) (h:ae),aW ⟨W,fun _=>none⟩ E h W→∃av aa ab,E.le av∧Ext h aa∧aW ⟨W,fun _=>none⟩ av aa W∧aY av ab (cs.drop o)∧ab.length=bU-o∧
  ∀(i:Nat) (f:Field) (k:Nat),bO[i]? =some f→ms[i]? =some k→o≤f.offset∧c7 P aa n k f.type ((ab.drop (f.offset-o)).take (P.cellsOf f.type))
 | [],_::_,_,_,_,_,_,je,_=>by simp at je
 | _::_,[],_,_,_,_,_,je,_=>by simp at je
 | [],[],o,bU,cs,aC,ai,_,_=>by
   simp only [um,Option.some.injEq] at aC
   subst aC
   refine ⟨Nat.le_refl _,fun E h s=>⟨E,h,[],fun _ _ q=>q,Ext.refl h,s,?_,by simp,fun i f k ax=>by simp at ax⟩⟩
   rw [List.drop_eq_nil_of_le (by omega)]
   rfl
 | f::bO,m::ms,o,bU,cs,aC,ai,je,ah=>by
   simp only [um] at aC
   by_cases ax:f.offset=o
   · rw [if_pos ax] at aC
     obtain ⟨g1,g2⟩:=Km n bO ms (o+P.cellsOf f.type) bU cs aC ai (by simpa using je) (fun i f k aj ay=>ah (i+1) f k (by simpa using aj) (by simpa using ay))
     refine ⟨by omega,fun E h s=>?_⟩
     have rp:=ah 0 f m rfl rfl
     obtain ⟨eX,U,ab,bK,a2,a3,a4,a5,hB⟩:=rp E h s
     obtain ⟨bN,ad,us,bL,ca,hS,j8,j9,qG⟩:=g2 eX U a3
     have tv:ab.length=P.cellsOf f.type:=by rw [a5,List.length_take,List.length_drop,ax];omega
     refine ⟨bN,ad,ab++us,bK.trans bL,a2.trans ca,hS,?_,?_,?_⟩
     · have e:cs.drop o=(cs.drop f.offset).take (P.cellsOf f.type)++cs.drop (o+P.cellsOf f.type):=by
        rw [ax,←List.drop_drop,List.take_append_drop]
       rw [e]
       exact aY.append (L2 bL a4) j8
     · rw [List.length_append,tv,j9]
       omega
     · intro i g k aD aA
       cases i with
       | zero=>
         simp only [List.getElem?_cons_zero,Option.some.injEq] at aD aA
         subst aD aA
         refine ⟨by omega,?_⟩
         rw [ax,Nat.sub_self,List.drop_zero,List.take_left' tv]
         exact c7.ext ca _ _ _ _ hB
       | succ i=>
         obtain ⟨bC,bY⟩:=qG i g k (by simpa using aD) (by simpa using aA)
         refine ⟨by omega,?_⟩
         rw [show g.offset-o=P.cellsOf f.type + (g.offset - (o+P.cellsOf f.type)) from by omega,←List.drop_drop,List.drop_left' tv]
         exact bY
   · rw [if_neg ax] at aC
     cases aC
theorem Hr {w:World} {a:Addr} {y:Value} (h:w.cell? a=some y):a.spot=none∧∃c el bG,w.heap[a.block]? =some (.cells c el bG)∧c[a.off]? =some y:=by
 refine ⟨World.cell?_spot h,?_⟩
 unfold World.cell? at h
 split at h
 · rename_i c el bG a6
   split at h
   · cases h
   · exact ⟨c,el,bG,a6,h⟩
 · cases h
theorem N9 (a:Addr) (n:Nat):(a.add n).block=a.block:=by unfold Addr.add;split<;>rfl
theorem N' (a:Addr) (n:Nat):(a.add n).off=a.off+n:=by unfold Addr.add;split<;>simp_all
theorem abc {w:World} {a:Addr} {l:List Value} (bb:0<l.length) (h:∀i,i<l.length→w.cell? (a.add i)=l[i]?):
 a.spot=none∧∃c el bG,w.heap[a.block]? =some (.cells c el bG)∧a.off+l.length≤c.size∧∀i,i<l.length→c[a.off+i]? =l[i]? :=by
 have s6:w.cell? (a.add 0)=some l[0]:=by rw [h 0 bb];exact List.getElem?_eq_getElem bb
 obtain ⟨s1,c,el,bG,s2,qf⟩:=Hr s6
 have cC:a.add 0=a:=by unfold Addr.add;simp
 rw [cC] at s1 s2 qf
 have key:∀i,i<l.length→c[a.off+i]? =l[i]? :=by
  intro i aB
  have q:=h i aB
  rw [List.getElem?_eq_getElem aB] at q ⊢
  obtain ⟨_,fz,adx,adA,t2,t3⟩:=Hr q
  rw [N9,s2] at t2
  rw [N'] at t3
  simp only [Option.some.injEq,Obj.cells.injEq] at t2
  obtain ⟨rfl,_,_⟩:=t2
  exact t3
 refine ⟨s1,c,el,bG,s2,?_,key⟩
 have:=key (l.length-1) (by omega)
 rw [List.getElem?_eq_getElem (by omega)] at this
 have aN:=(Array.getElem?_eq_some_iff.1 this).1
 omega
theorem M0 {E:Env} {h:ae} (s:aW ⟨W,fun _=>none⟩ E h W) {a:Addr} {cap:Nat} {l:List Value} (bb:0<l.length) (ar:∀i,i<l.length→W.cell? (a.add i)=l[i]?) {us:List V} (aG:aY E us l):
 ∃av aa b,E.le av∧Ext h aa∧aW ⟨W,fun _=>none⟩ av aa W∧Old aa b∧a.spot=none∧av b=some ⟨a.block,a.off,cap⟩∧Rd aa b us:=by
 obtain ⟨s1,c,el,bG,s2,qf,ue⟩:=abc bb ar
 have JM:us.length=l.length:=(aY.length aG).symm
 refine ⟨nK E h ⟨a.block,a.off,cap⟩,h.new (.ro us),aH h.next,FU s _,(Ext.refl h).new _,abG s s2 (by omega) fun i v y bx aZ=>?_,La,s1,MZ _ _ _,.inl (l9 _)⟩
 have aB:i<l.length:=by
  have:=(List.getElem?_eq_some_iff.1 bx).1
  omega
 rw [ue i aB] at aZ
 obtain ⟨o',aE,aM⟩:=aY.get aG i v bx
 rw [aZ] at aE
 simp only [Option.some.injEq] at aE
 rw [aE]
 exact aM
theorem Is {α:Type} (size:Nat):∀(pieces:List (List α)) (i j:Nat),(∀l ∈ pieces,l.length=size)→i<pieces.length→j<size→pieces.flatten[i * size+j]? =(pieces[i]?).bind (·[j]?)
 | [],i,j,_,aB,_=>by simp at aB
 | l::ls,i,j,ah,aB,bH=>by
   have ai:l.length=size:=ah l (by simp)
   cases i with
   | zero=>
     rw [Nat.zero_mul,Nat.zero_add,List.flatten_cons,List.getElem?_append_left (by omega)]
     simp
   | succ i=>
     rw [List.flatten_cons,List.getElem?_append_right (by rw [ai,Nat.add_mul];omega)]
     rw [show (i+1) * size+j-l.length=i * size+j from by rw [ai,Nat.add_mul];omega]
     rw [Is size ls i j (fun l ai=>ah l (by simp [ai])) (by simpa using aB) bH]
     simp
theorem Iu {α:Type} (size:Nat):∀(pieces:List (List α)),(∀l ∈ pieces,l.length=size)→pieces.flatten.length=pieces.length * size
 | [],_=>by simp
 | l::ls,ah=>by
   rw [List.flatten_cons,List.length_append,Iu size ls (fun l ai=>ah l (by simp [ai])),ah l (by simp),List.length_cons,Nat.add_mul]
   omega
theorem Lv {α:Type} (R:Nat→α→Prop):∀(len:Nat),(∀i,i<len→∃l,R i l)→∃ba:List α,ba.length=len∧∀i l,ba[i]? =some l→R i l
 | 0,_=>⟨[],rfl,fun i l q=>by simp at q⟩
 | m+1,h=>by
   obtain ⟨ba,aj,ay⟩:=Lv R m (fun i aB=>h i (by omega))
   obtain ⟨l,U⟩:=h m (by omega)
   refine ⟨ba++[l],by simp [aj],fun i dZ eu=>?_⟩
   by_cases aB:i<ba.length
   · rw [List.getElem?_append_left aB] at eu
     exact ay i dZ eu
   · rw [List.getElem?_append_right (by omega)] at eu
     have cC:i-ba.length=0:=by
      by_cases q:i-ba.length=0
      · exact q
      · rw [List.getElem?_eq_none (by simp;omega)] at eu
        cases eu
     rw [cC] at eu
     simp at eu
     subst eu
     obtain rfl:i=m:=by omega
     exact U
theorem y9 (dz:r7 P=true) (cy:laidOutB P=true):∀(n:Nat) (t:TypeId) (cs:List Value) (x:DataW H × List MemPlace),t<P.types.size→DataW.trod enc P W base sp held n t cs=some x→Lays P W n (eK x.1) t cs
 | 0,t,cs,x,_,h=>by simp [DataW.trod] at h
 | n+1,t,cs,x,aN,h=>by
   have xF:∀(cs:List Value),(∀aa ab,ab.length=cs.length→c7 P aa (n+1) (eK x.1) t ab)→Lays P W (n+1) (eK x.1) t cs:=by
    intro cs H E h s
    refine ⟨E,h,cs.map fun _=>.bad,fun _ _ q=>q,Ext.refl h,s,?_,by simp,H _ _ (by simp)⟩
    clear H
    induction cs with
    | nil=>rfl
    | cons c cs bh=>exact ⟨c,cs,rfl,by simp [Rel],bh⟩
   cases hu:P.underlying t with
   | none=>
     refine xF cs fun aa ab _=>?_
     simp only [c7,hu]
   | some u=>
     cases u with
     | bool=>
       obtain ⟨b,rfl,_⟩:=DataW.trod_bool hu h
       intro E h s
       exact ⟨E,h,[.bool b],fun _ _ q=>q,Ext.refl h,s,⟨_,_,rfl,rfl,rfl⟩,rfl,by simp only [c7,hu];exact ⟨b,rfl⟩⟩
     | int k=>
       obtain ⟨i,rfl,_,hw⟩:=DataW.trod_int hu h
       intro E h s
       exact ⟨E,h,[.int k i],fun _ _ q=>q,Ext.refl h,s,⟨_,_,rfl,rfl,rfl⟩,rfl,by simp only [c7,hu];exact ⟨i,rfl,hw⟩⟩
     | string=>
       obtain ⟨b,rfl,rfl,_⟩:=DataW.trod_string hu h
       intro E h s
       exact ⟨E,h,[.str b.data.toList],fun _ _ q=>q,Ext.refl h,s,⟨_,_,rfl,rfl,rfl⟩,rfl,by simp only [c7,hu,eK];exact ⟨_,rfl,Nat.le_refl _⟩⟩
     | struct bO=>
       obtain ⟨xs,fU,a7,rfl,ai,tz,ax⟩:=DataW.trod_struct hu h
       obtain rfl:n=fU:=by omega
       have VR:um P bO.toList 0=some (P.cellsOf t):=by
        unfold r7 at dz
        rw [List.all_eq_true] at dz
        have:=dz t (List.mem_range.2 aN)
        rw [hu] at this
        exact of_decide_eq_true this
       have iI:∀(i:Nat) (f:Field) (k:Nat),bO.toList[i]? =some f→(xs.map fun x=>eK x.1)[i]? =some k→Lays P W n k f.type ((cs.drop f.offset).take (P.cellsOf f.type)):=by
        intro i f k aB aA
        have ly:f ∈ bO.toList:=List.mem_of_getElem? aB
        have q_:bO[i]? =some f:=by simpa using aB
        have:=ax i f q_
        have Jl:i<xs.length:=by
         rw [tz]
         exact (Array.getElem?_eq_some_iff.1 q_).1
        rw [List.getElem?_eq_getElem Jl] at this
        rw [List.getElem?_map,List.getElem?_eq_getElem Jl,Option.map_some,Option.some.injEq] at aA
        subst aA
        exact y9 dz cy n _ _ _ ((kid_struct cy aN hu).1 f ly) this
       intro E h s
       obtain ⟨_,g⟩:=Km n bO.toList (xs.map fun x=>eK x.1) 0 _ cs VR ai (by simp [tz]) iI
       obtain ⟨av,aa,ab,bK,a2,a3,a4,a5,hB⟩:=g E h s
       refine ⟨av,aa,ab,bK,a2,a3,by simpa using a4,by rw [a5,ai];omega,?_⟩
       simp only [c7,hu]
       refine ⟨by omega,xs.map fun x=>eK x.1,by simp [tz],?_,fun i f k ly aA=>⟨?_,by simpa using (hB i f k ly aA).2⟩⟩
       · simp only [eK,Be,List.map_map]
         exact Nat.le_refl _
       · rw [List.getElem?_map,Option.map_eq_some_iff] at aA
         obtain ⟨y,_,rfl⟩:=aA
         exact n' _
     | slice e=>
       rcases DataW.trod_slice hu h with ⟨rfl,rfl⟩ | ⟨a,len,cap,elems,rest,fU,a7,rfl,rfl,af,ow,_,I6,De,_,_⟩
       · intro E h s
         exact ⟨E,h,[.cq],fun _ _ q=>q,Ext.refl h,s,⟨_,_,rfl,rfl,rfl⟩,rfl,by simp only [c7,hu];exact ⟨n' _,.inl trivial⟩⟩
       · obtain rfl:n=fU:=by omega
         by_cases aQ:P.cellsOf e=0
         · refine xF _ fun aa ab _=>?_
           simp only [c7,hu]
           exact ⟨n' _,.inr (.inr (.inl aQ))⟩
         by_cases ov:len=0
         · subst ov
           intro E h s
           refine ⟨E,h,[.fy .z 0 0 0],fun _ _ q=>q,Ext.refl h,s,⟨_,_,rfl,?_,rfl⟩,rfl,by simp only [c7,hu];exact ⟨n' _,.inr (.inl ⟨_,_,_,_,rfl⟩)⟩⟩
           simp only [Rel]
           exact ⟨_,_,rfl⟩
         · -- its elements
           have ia:∀i,i<len→∃l,W.cells? base (a.add (i * P.cellsOf e)) (P.cellsOf e)=some l∧∀k:Nat,(elems.map fun x=>eK x.1)[i]? =some k→Lays P W n k e l:=by
            intro i aB
            have:=De i aB
            rw [List.getElem?_eq_getElem (by omega)] at this
            rw [Option.bind_eq_some_iff] at this
            obtain ⟨l,U,ad⟩:=this
            refine ⟨l,U,fun k aA=>?_⟩
            rw [List.getElem?_map,List.getElem?_eq_getElem (by omega),Option.map_some,Option.some.injEq] at aA
            subst aA
            exact y9 dz cy n _ _ _ (kid_slice cy aN hu) ad
           obtain ⟨pieces,gQ,gr⟩:∃pieces:List (List Value),pieces.length=len∧∀i (l:List Value),pieces[i]? =some l→W.cells? base (a.add (i * P.cellsOf e)) (P.cellsOf e)=some l∧∀k:Nat,(elems.map fun x=>eK x.1)[i]? =some k→Lays P W n k e l:=by
            exact Lv (fun i l=>W.cells? base (a.add (i * P.cellsOf e)) (P.cellsOf e)=some l∧∀k:Nat,(elems.map fun x=>eK x.1)[i]? =some k→Lays P W n k e l) len ia
           have ib:∀(i:Nat) (l:List Value) (k:Nat),pieces[i]? =some l→(elems.map fun x=>eK x.1)[i]? =some k→l.length=P.cellsOf e∧Lays P W n k e l:=by
            intro i l k aB aA
            obtain ⟨aj,ay⟩:=gr i l aB
            exact ⟨(xS aj).1,ay k aA⟩
           have Jy:∀l ∈ pieces,l.length=P.cellsOf e:=by
            intro l ai
            obtain ⟨i,aB⟩:=List.getElem?_of_mem ai
            exact (xS (gr i l aB).1).1
           intro E h s
           obtain ⟨eX,U,us,bK,a2,a3,a4,a5,hB⟩:=Kn n (P.cellsOf e) e pieces (elems.map fun x=>eK x.1) (by simp [I6,gQ]) ib E h s
           have iI:=Iu (P.cellsOf e) pieces Jy
           have vA:0<len * P.cellsOf e:=Nat.mul_pos (by omega) (by omega)
           have q2:∀i,i<pieces.flatten.length→W.cell? (a.add i)=pieces.flatten[i]? :=by
            intro q aF
            rw [iI] at aF
            have Jr:q % P.cellsOf e<P.cellsOf e:=Nat.mod_lt _ (by omega)
            have hdiv:q / P.cellsOf e<pieces.length:=Nat.div_lt_of_lt_mul (by rw [Nat.mul_comm];exact aF)
            have tj:q / P.cellsOf e * P.cellsOf e+q % P.cellsOf e=q:=by rw [Nat.mul_comm];exact Nat.div_add_mod q _
            rw [←tj,Is (P.cellsOf e) pieces _ _ Jy hdiv Jr,List.getElem?_eq_getElem hdiv]
            obtain ⟨aj,_⟩:=gr _ _ (List.getElem?_eq_getElem hdiv)
            have:=(xS aj).2 _ Jr
            rw [Option.bind_some,←this]
            congr 1
            unfold Addr.add
            by_cases cd:q / P.cellsOf e * P.cellsOf e=0
            · rw [cd];simp
            · by_cases z2:q % P.cellsOf e=0
              · rw [z2];simp
              · have z3:¬(q / P.cellsOf e * P.cellsOf e+q % P.cellsOf e=0):=by omega
                rw [if_neg cd,if_neg z2,if_neg z3]
                simp [Nat.add_assoc]
           obtain ⟨bN,ad,b,bL,ca,hS,j8,j9,qG,A_⟩:=M0 a3 (cap:=cap) (by rw [iI,gQ];exact vA) q2 a4
           refine ⟨bN,ad,[.slice b 0 len cap],bK.trans bL,a2.trans ca,hS,⟨_,_,rfl,?_,rfl⟩,rfl,?_⟩
           · simp only [Rel]
             refine ⟨_,qG,ow,?_⟩
             obtain ⟨OL,ZM,st⟩:=a
             simp only at j9
             subst j9
             rfl
           · simp only [c7,hu]
             refine ⟨n' _,.inr (.inr (.inr ⟨b,len,cap,rfl,by omega,ow,j8,us,A_,by rw [a5,gQ],elems.map fun x=>eK x.1,by simp [I6],?_,fun i k aA=>⟨?_,c7.ext ca _ _ _ _ (hB i k aA)⟩⟩))⟩
             · simp only [eK,Be,List.map_map]
               exact Nat.add_le_add_right (Nat.le_add_right _ _) 1
             · rw [List.getElem?_map,Option.map_eq_some_iff] at aA
               obtain ⟨y,_,rfl⟩:=aA
               exact n' _
     | pointer e=>
       rcases DataW.trod_pointer hu h with ⟨rfl,rfl⟩ | ⟨a,sG,y,fU,a7,rfl,rfl,ar,aZ⟩
       · intro E h s
         exact ⟨E,h,[.ju],fun _ _ q=>q,Ext.refl h,s,⟨_,_,rfl,rfl,rfl⟩,rfl,by simp only [c7,hu];exact ⟨n' _,.inl trivial⟩⟩
       · obtain rfl:n=fU:=by omega
         by_cases aQ:P.cellsOf e=0
         · refine xF _ fun aa ab _=>?_
           simp only [c7,hu]
           exact ⟨n' _,.inr (.inl aQ)⟩
         · intro E h s
           obtain ⟨aj,ay⟩:=xS ar
           obtain ⟨eX,U,us,bK,a2,a3,a4,a5,hB⟩:=y9 dz cy n _ _ _ (kid_pointer cy aN hu) aZ E h s
           obtain ⟨bN,ad,b,bL,ca,hS,j8,j9,qG,A_⟩:=M0 a3 (cap:=0) (by omega) (fun i aB=>ay i (by omega)) a4
           refine ⟨bN,ad,[.ptr b 0],bK.trans bL,a2.trans ca,hS,⟨_,_,rfl,?_,rfl⟩,rfl,?_⟩
           · simp only [Rel]
             refine ⟨_,qG,?_⟩
             obtain ⟨OL,ZM,st⟩:=a
             simp only at j9
             subst j9
             rfl
           · simp only [c7,hu]
             exact ⟨n' _,.inr (.inr ⟨b,rfl,j8,us,A_,by omega,_,Nat.le_refl _,c7.ext ca _ _ _ _ hB⟩)⟩
     | map k e=>
       have gp:cs.length=1:=by
        unfold DataW.trod at h
        rw [hu] at h
        split at h<;>simp_all
       intro E h s
       refine ⟨E,h,[.bad],fun _ _ q=>q,Ext.refl h,s,?_,by simp [gp],by simp only [c7,hu];exact .inr trivial⟩
       match cs,gp with
       | [c],_=>exact ⟨c,[],rfl,by simp [Rel],rfl⟩
     | interface ms=>
       have gp:cs.length=1:=by
        unfold DataW.trod at h
        rw [hu] at h
        split at h<;>simp_all
       intro E h s
       refine ⟨E,h,[.bad],fun _ _ q=>q,Ext.refl h,s,?_,by simp [gp],by simp only [c7,hu];exact .inr trivial⟩
       match cs,gp with
       | [c],_=>exact ⟨c,[],rfl,by simp [Rel],rfl⟩
     | _=>
       refine xF cs fun aa ab _=>?_
       simp only [c7,hu]
def mS (P:Program) (h:ae) (n m:Nat) (t:TypeId) (v:V):Prop:=
 match P.underlying t with
 | some (.struct _) | some (.array _ _)=>∃ab,v=.agg ab∧c7 P h n m t ab
 | _=>c7 P h n m t [v]
theorem mS.ext {h aa:ae} (e:Ext h aa) {n m:Nat} {t:TypeId} {v:V} (H:mS P h n m t v):mS P aa n m t v:=by
 unfold mS at H ⊢
 split at H
 · obtain ⟨ab,aj,ay⟩:=H
   exact ⟨ab,aj,c7.ext e _ _ _ _ ay⟩
 · obtain ⟨ab,aj,ay⟩:=H
   exact ⟨ab,aj,c7.ext e _ _ _ _ ay⟩
 · exact c7.ext e _ _ _ _ H
theorem YJ (dz:r7 P=true) (cy:laidOutB P=true) {r:Reach} {qF:Nat} {t:TypeId} {v:Value} {d:DataW H} {p:List MemPlace} (aN:t<P.types.size) (bg:Value.okWide P W r qF t v) (aV:DataW.Trod enc P W base sp held t v d p) {E:Env} {h:ae} (s:aW ⟨W,fun _=>none⟩ E h W):
 ∃n av aa x,E.le av∧Ext h aa∧aW ⟨W,fun _=>none⟩ av aa W∧Rel av x v∧mS P aa n (eK d) t x:=by
 obtain ⟨fuel,ax⟩:=aV
 obtain ⟨av,aa,ab,bK,a2,a3,a4,a5,hB⟩:=y9 dz cy _ _ _ _ aN ax E h s
 have agg:(∃cs,v=.agg cs)→∃x,Rel av x v∧x=.agg ab:=by
  rintro ⟨cs,rfl⟩
  exact ⟨.agg ab,by simp only [Rel];exact ⟨cs,rfl,a4⟩,rfl⟩
 have one:v.cells=#[v]→∃x,Rel av x v∧ab=[x]:=by
  intro ar
  rw [ar] at a4 a5
  match ab,a4,a5 with
  | [x],⟨y,b2,aE,aM,b9⟩,_=>
    simp only [List.cons.injEq] at aE
    exact ⟨x,aE.1 ▸ aM,rfl⟩
 refine ⟨fuel,av,aa,?_⟩
 unfold Value.okWide at bg
 cases hu:P.underlying t with
 | none=>
   rw [hu] at bg
   simp only [Cell.okWide,Cell.ok,hu] at bg
 | some u=>
   rw [hu] at bg
   unfold mS
   rw [hu]
   cases u<;>simp only at bg ⊢<;>first
    | (obtain ⟨cs,bx,_⟩:=bg
       obtain ⟨x,aj,ay⟩:=agg ⟨cs,bx⟩
       exact ⟨x,bK,a2,a3,aj,ab,ay,hB⟩)
    | (have ar:v.cells=#[v]:=by
        cases v<;>first
         | rfl
         | (simp only [Cell.okWide,Cell.ok,hu] at bg)
       obtain ⟨x,aj,ay⟩:=one ar
       exact ⟨x,bK,a2,a3,aj,ay ▸ hB⟩)
def kK (P:Program) (h:ae):Nat→List TypeId→List V→Prop
 | _,[],[]=>True
 | m,t::cc,v::ab=>∃k bl,k+bl≤m∧(∃n,mS P h n k t v)∧kK P h bl cc ab
 | _,_,_=>False
theorem kK.mono {h:ae}:∀{m cK:Nat} {cc:List TypeId} {ab:List V},m≤cK→kK P h m cc ab→kK P h cK cc ab
 | _,_,[],[],_,H=>by unfold kK;trivial
 | _,_,[],_::_,_,H=>H.elim
 | _,_,_::_,[],_,H=>H.elim
 | _,_,_::_,_::_,hm,⟨k,bl,aA,H,iZ⟩=>⟨k,bl,Nat.le_trans aA hm,H,iZ⟩
theorem Kl (dz:r7 P=true) (cy:laidOutB P=true) {r:Reach} {qF:Nat}:∀{cc:List TypeId} {ab:List Value} {ds:List (DataW H)} {p:List MemPlace},(∀t ∈ cc,t<P.types.size)→(∀(j:Nat) t v,cc[j]? =some t→ab[j]? =some v→Value.okWide P W r qF t v)→
 DataW.TrodAll enc P W base sp held cc ab ds p→∀{E:Env} {h:ae},aW ⟨W,fun _=>none⟩ E h W→∃av aa xs,E.le av∧Ext h aa∧aW ⟨W,fun _=>none⟩ av aa W∧aY av xs ab∧kK P aa (jA ds) cc xs
 | [],[],ds,p,_,_,_,E,h,s=>⟨E,h,[],fun _ _ q=>q,Ext.refl h,s,rfl,by unfold kK;trivial⟩
 | [],_::_,ds,p,_,_,aV,E,h,s=>by cases ds<;>exact aV.elim
 | _::_,[],ds,p,_,_,aV,E,h,s=>by cases ds<;>exact aV.elim
 | _::_,_::_,[],p,_,_,aV,E,h,s=>aV.elim
 | t::cc,v::ab,d::ds,p,aC,bx,⟨b1,b',U,ad,_⟩,E,h,s=>by
   obtain ⟨n,eX,g1,x,bK,a2,a3,a4,a5⟩:=YJ dz cy (aC t (by simp)) (bx 0 t v rfl rfl) U s
   obtain ⟨bN,g2,xs,bL,ca,hS,j8,j9⟩:=Kl dz cy (fun t q=>aC t (by simp [q])) (fun j t v aj ay=>bx (j+1) t v (by simpa using aj) (by simpa using ay)) ad a3
   exact ⟨bN,g2,x::xs,bK.trans bL,a2.trans ca,hS,⟨_,_,rfl,Rel.mono bL _ _ a4,j8⟩,eK d,jA ds,by simp only [jA];exact Nat.le_refl _,⟨n,a5.ext ca⟩,j9⟩
theorem RH (dz:r7 P=true) (cy:laidOutB P=true) {r:Reach} {qF:Nat} {f:FuncId} {cc:List TypeId} {ab:List Value} {ds:List (DataW H)} {p:List MemPlace} (ev:∀t ∈ cc,t<P.types.size) (bx:∀(j:Nat) t v,cc[j]? =some t→ab[j]? =some v→Value.okWide P W r qF t v)
 (aV:DataW.TrodAll enc P W base sp held cc ab ds p) (s5:Lay.ok W) (bw:dJ P) (af:∃fn,P.funcs[f]? =some fn∧fn.body.isSome=true) (ar:∀(h:ae) (xs:List V),kK P h (jA ds) cc xs→bF P f xs h fun y _=>y=.bool true):
 Calls P f ab.toArray W fun e al=>e=.returned (.bool true)∧Below W.heap.size W al:=by
 obtain ⟨E,h,xs,_,_,a3,a4,a5⟩:=Kl dz cy ev bx aV (z8 W s5)
 obtain ⟨y,aa,ma,rfl⟩:=ar h xs a5
 refine (ma.calls bw af _ E W ab a4 a3).mono fun e al q=>?_
 obtain ⟨av,x,rfl,_,ay,aK⟩:=q
 simp only [Rel] at ay
 subst ay
 exact ⟨rfl,aK.frame⟩
end
end Go.Proofs.YtkehcalakofigaaGreatDoor.a1
namespace Go.Proofs.YtkehcalakofigaaGreatDoor.a1
variable [Lay]
open Go Go.RowKit
section
variable {P:Program} {h:ae} {n m:Nat} {t:TypeId}
theorem c7.pos {ab:List V} (H:c7 P h n m t ab):∃k,n=k+1:=by
 cases n with
 | zero=>exact H.elim
 | succ m=>exact ⟨m,rfl⟩
theorem c7.int {ab:List V} {k:IntKind} (H:c7 P h n m t ab) (hu:P.underlying t=some (.int k)):∃i,ab=[.int k i]∧(Lit.int k i).wf=true:=by
 obtain ⟨m,rfl⟩:=H.pos
 simpa only [c7,hu] using H
theorem c7.str {ab:List V} (H:c7 P h n m t ab) (hu:P.underlying t=some .string):∃s:List UInt8,ab=[.str s]∧s.length+1≤m:=by
 obtain ⟨_,rfl⟩:=H.pos
 simpa only [c7,hu] using H
theorem c7.struct {ab:List V} {bO:Array Field} (H:c7 P h n m t ab) (hu:P.underlying t=some (.struct bO)):∃fU,n=fU+1∧ab.length=P.cellsOf t∧∃ms:List Nat,ms.length=bO.toList.length∧ms.sum+1≤m∧
 ∀(i:Nat) (f:Field) (k:Nat),bO.toList[i]? =some f→ms[i]? =some k→1≤k∧c7 P h fU k f.type ((ab.drop f.offset).take (P.cellsOf f.type)):=by
 obtain ⟨fU,rfl⟩:=H.pos
 refine ⟨fU,rfl,?_⟩
 simpa only [c7,hu] using H
def wP (v:V):Prop:=∀b off l c,v=.slice b off l c→l≤c
def xp (h:ae) (size:Nat) (v:V) (len m:Nat) (Q:Nat→List V→Prop):Prop:=
 v.one=true∧v.cells=[v]∧v.e_=true∧iO v=some (.int .i64 len)∧wP v∧∃(us:List V) (ms:List Nat),eZ h size v len us∧ms.length=len∧ms.sum+1≤m∧∀(i k:Nat),ms[i]? =some k→1≤k∧Q k ((us.drop (i * size)).take size)
theorem c7.slice {ab:List V} {e:TypeId} (H:c7 P h n m t ab) (hu:P.underlying t=some (.slice e)) (aQ:P.cellsOf e≠0):∃fU v len,n=fU+1∧ab=[v]∧xp h (P.cellsOf e) v len m (fun k=>c7 P h fU k e):=by
 obtain ⟨fU,rfl⟩:=H.pos
 simp only [c7,hu] at H
 obtain ⟨bb,H⟩:=H
 rcases H with rfl | ⟨b,i,j,k,rfl⟩ | q | ⟨b,len,cap,rfl,U,ad,br,us,b_,cA,ms,fv,fD,jm⟩
 · exact ⟨fU,_,0,rfl,rfl,rfl,rfl,rfl,rfl,(fun _ _ _ _ e=>by cases e),[],[],⟨by simp,rfl⟩,rfl,by simpa using bb,fun i k aB=>by simp at aB⟩
 · exact ⟨fU,_,0,rfl,rfl,rfl,rfl,rfl,rfl,(fun _ _ _ _ e=>by cases e),[],[],⟨by simp,rfl⟩,rfl,by simpa using bb,fun i k aB=>by simp at aB⟩
 · exact absurd q aQ
 · exact ⟨fU,_,len,rfl,rfl,rfl,rfl,rfl,rfl,(fun _ _ _ _ e=>by cases e;exact ad),us,ms,⟨cA,rfl,br,us,b_,by omega,by simp⟩,fv,fD,jm⟩
end
end Go.Proofs.YtkehcalakofigaaGreatDoor.a1
namespace Go.Proofs.YtkehcalakofigaaGreatDoor.a1
variable [Lay]
open Go Go.RowKit Go.ChangeShapes Go.WideShapes
section
variable {H:Type} {enc:TypeId × Value→H} {P:Program}
theorem GR (cy:laidOutB P=true) {W uK:World} (af:Below W.heap.size W uK):∀{cc:List TypeId} {ab:List Value} {ds:List (DataW H)} {ba:List MemPlace},(cc.all fun t=>P.readableRec t&&decide (t<P.types.size))=true→
 DataW.TrodAll enc P W 0 (fun _=>true) true cc ab ds ba→DataW.TrodAll enc P uK 0 (fun b=>decide (b<W.heap.size)) true cc ab ds ba
 | [],[],[],_,_,h=>h
 | [],_::_,_,_,_,h=>by rename_i ds _;cases ds<;>exact h.elim
 | [],[],_::_,_,_,h=>h.elim
 | _::_,[],_,_,_,h=>by rename_i ds _;cases ds<;>exact h.elim
 | _::_,_::_,[],_,_,h=>h.elim
 | t::cc,v::ab,d::ds,ba,aG,h=>by
   have aN:=h.lt
   obtain ⟨p,q,U,ad,rfl⟩:=h
   simp only [List.all_cons,Bool.and_eq_true,decide_eq_true_eq] at aG
   exact ⟨p,q,Below.trod cy aG.1.1 aG.1.2 U af (fun x ao=>aN x (by simp [ao])),GR cy af aG.2 ad,rfl⟩
theorem MO {W:World} {base:Nat} {sp:Nat→Bool} {held:Bool}:∀{cc:List TypeId} {ab:List Value} {ds:List (DataW H)} {ba:List MemPlace},DataW.TrodAll enc P W base sp held cc ab ds ba→ds.length=cc.length
 | [],[],[],_,_=>rfl
 | [],_::_,ds,_,h=>by cases ds<;>exact h.elim
 | [],[],_::_,_,h=>h.elim
 | _::_,[],ds,_,h=>by cases ds<;>exact h.elim
 | _::_,_::_,[],_,h=>h.elim
 | t::cc,v::ab,d::ds,ba,h=>by
   obtain ⟨p,q,U,ad,rfl⟩:=h
   simp [MO ad]
theorem Yx (dz:r7 P=true) (cy:laidOutB P=true) {f:FuncId} {fn:Func} {s:ChangeSpec} {FM:TypeId} (ev:(fn.params.toList.all fun t=>P.readableRec t&&decide (t<P.types.size))=true) (JO:s.vars=[]) (VH:fn.resultTypes=#[FM]) (VX:P.underlying FM=some .bool)
 (DX:∀ds:List (DataW H),ds.length=fn.params.size→s.fn H (ds++[])={results:=[.lit (.bool true)],args:=ds})
 {B:Nat} (ar:∀(h:ae) (xs:List V),kK P h B fn.params.toList xs→bF P f xs h fun y _=>y=.bool true)
 {W:World} {base:Nat} {args:Array Value} {ds gs:List (DataW H)} {before:List MemPlace} (aA:jA (ds++gs)≤B) (iJ:Lay.ok W) (bw:dJ P) (af:∃fn,P.funcs[f]? =some fn∧fn.body.isSome=true)
 (D0:∀(j:Nat) t v,fn.params[j]? =some t→args[j]? =some v→Value.okWide P W .any base t v) (s5:DataW.Whole enc P fn.params.toList s.vars false W args.toList ds gs before):
 Calls P f args W fun e uK=>∃v,e=.returned v∧s.post enc P fn false true false false W args v uK:=by
 have Uk:=s5
 obtain ⟨p,q,kO,IU,rfl,nf,lz⟩:=s5
 rw [JO] at IU
 obtain ⟨rfl,rfl⟩:=trodVars_none IU
 have hlen:ds.length=fn.params.size:=by rw [MO kO];simp
 have hw:=RH dz cy (qF:=base) (r:=.any) (fun t aC=>by
  have:=List.all_eq_true.1 ev t aC
  simp only [Bool.and_eq_true,decide_eq_true_eq] at this
  exact this.2) (fun j t v U ad=>D0 j t v (by simpa using U) (by simpa using ad)) kO iJ bw af (fun h xs q=>ar h xs (q.mono (by simpa using aA)))
 simp only [Array.toArray_toList] at hw
 refine hw.mono fun e uK ⟨he,GQ⟩=>?_
 subst he
 refine ⟨_,rfl,ds,[],p++[],[],p,[],Uk,?_,?_,?_,GQ.frame _,fun h=>by cases h⟩
 · rw [DX ds hlen,VH]
   exact trodAll_mk1 (shut_bool VX _)
 · rw [DX ds hlen]
   exact GR cy GQ ev kO
 · rw [DX ds hlen,JO]
   rfl
end
end Go.Proofs.YtkehcalakofigaaGreatDoor.a1
namespace Go.Proofs.YtkehcalakofigaaGreatDoor.a1
variable [Lay]
open Go Go.RowKit
theorem abA {P:Program} {h:ae} {B:Nat} {xs:List V} (aQ:kK P h B [] xs):xs=[]:=by
 match xs,aQ with
 | [],_=>rfl
theorem abz {P:Program} {h:ae} {B:Nat} {t:TypeId} {cc:List TypeId} {xs:List V} (aQ:kK P h B (t::cc) xs):∃a xw k bl n,xs=a::xw∧k+bl≤B∧mS P h n k t a∧kK P h bl cc xw:=by
 match xs,aQ with
 | a::xw,⟨k,bl,aA,⟨n,bb⟩,U⟩=>exact ⟨a,xw,k,bl,n,rfl,aA,bb,U⟩
section
variable {P:Program} {h:ae} {n m:Nat} {t:TypeId} {v:V}
theorem abB {e:TypeId} (aQ:mS P h n m t v) (hu:P.underlying t=some (.slice e)) {c:Nat} (ar:P.cellsOf e=c) (s6:c≠0):∃fU len,xp h c v len m (fun k=>c7 P h fU k e):=by
 unfold mS at aQ
 rw [hu] at aQ
 subst ar
 obtain ⟨fU,w,len,_,aE,g⟩:=c7.slice aQ hu s6
 simp only [List.cons.injEq,and_true] at aE
 subst aE
 exact ⟨fU,len,g⟩
end
end Go.Proofs.YtkehcalakofigaaGreatDoor.a1
namespace Go.Proofs.YtkehcalakofigaaGreatDoor.a1
variable [Lay]
open Go Go.RowKit
inductive D where
 | i (k:IntKind) (n:Int)
 | b (x:Bool)
 | s (x:List UInt8)
 | l (size:Nat) (es:List (List D))
inductive ct (F:aO→Prop) (h:ae):List D→List V→Prop
 | nil:ct F h [] []
 | i {k:IntKind} {n:Int} {ds:List D} {ab:List V} (t:ct F h ds ab):ct F h (.i k n::ds) (.int k n::ab)
 | b {x:Bool} {ds:List D} {ab:List V} (t:ct F h ds ab):ct F h (.b x::ds) (.bool x::ab)
 | s {x:List UInt8} {ds:List D} {ab:List V} (af:x.length≤top) (t:ct F h ds ab):ct F h (.s x::ds) (.str x::ab)
 | l {size:Nat} {es:List (List D)} {v:V} {us:List (List V)} {ds:List D} {ab:List V} (aG:wP v) (af:es.length≤top) (aQ:eZ h size v es.length us.flatten) (hu:us.length=es.length) (bq:∀u ∈ us,u.length=size)
    (kids:∀(i:Nat) (e:List D) (u:List V),es[i]? =some e→us[i]? =some u→ct F h e u) (ax:∀b,v.bd b→F b) (t:ct F h ds ab):ct F h (.l size es::ds) (v::ab)
structure cF (F:aO→Prop) (h:ae) (size:Nat) (es:List (List D)) (v:V):Prop where
 room:wP v
 le:es.length≤top
 ex:∃us:List (List V),eZ h size v es.length us.flatten∧us.length=es.length∧(∀u ∈ us,u.length=size)∧∀(i:Nat) (e:List D) (u:List V),es[i]? =some e→us[i]? =some u→ct F h e u
 vc:∀b,v.bd b→F b
section
variable {F:aO→Prop} {h aa:ae} {ds:List D} {ab:List V}
theorem ct.mod {dn M:aO→Prop} (m:Mod M h aa) (cR:∀b,F b→Old h b→¬M b∧dn b) (H:ct F h ds ab):ct dn aa ds ab:=by
 induction H with
 | nil=>exact .nil
 | i t bh=>exact .i bh
 | b t bh=>exact .b bh
 | s af t bh=>exact .s af bh
 | l aG af aQ hu bq kids ax t pO oF=>exact .l aG af (aQ.mod m fun b q=>(cR b (ax b q) (aQ.b0 q)).1) hu bq pO (fun b q=>(cR b (ax b q) (aQ.b0 q)).2) oF
theorem ct.ext (H:ct F h ds ab) (e:Ext h aa):ct F aa ds ab:=by
 induction H with
 | nil=>exact .nil
 | i t bh=>exact .i bh
 | b t bh=>exact .b bh
 | s af t bh=>exact .s af bh
 | l aG af aQ hu bq kids ax t pO oF=>exact .l aG af (aQ.ext e) hu bq pO ax oF
theorem ct.k8 {dn:aO→Prop} (H:ct F h ds ab) (w:∀b,F b→dn b):ct dn h ds ab:=by
 induction H with
 | nil=>exact .nil
 | i t bh=>exact .i bh
 | b t bh=>exact .b bh
 | s af t bh=>exact .s af bh
 | l aG af aQ hu bq kids ax t pO oF=>exact .l aG af aQ hu bq pO (fun b q=>w b (ax b q)) oF
theorem ct.b0 (H:ct F h ds ab):ct (fun b=>F b∧Old h b) h ds ab:=by
 induction H with
 | nil=>exact .nil
 | i t bh=>exact .i bh
 | b t bh=>exact .b bh
 | s af t bh=>exact .s af bh
 | l aG af aQ hu bq kids ax t pO oF=>exact .l aG af aQ hu bq pO (fun b q=>⟨ax b q,aQ.b0 q⟩) oF
theorem ct.eb (H:ct F h ds ab):eb ab=true:=by
 induction H with
 | nil=>rfl
 | i t bh=>simpa [Go.Proofs.YtkehcalakofigaaGreatDoor.a1.eb,V.one] using bh
 | b t bh=>simpa [Go.Proofs.YtkehcalakofigaaGreatDoor.a1.eb,V.one] using bh
 | s af t bh=>simpa [Go.Proofs.YtkehcalakofigaaGreatDoor.a1.eb,V.one] using bh
 | l aG af aQ hu bq kids ax t pO oF=>simp only [Go.Proofs.YtkehcalakofigaaGreatDoor.a1.eb,aQ.one.1,oF,Bool.and_self]
theorem ct.int {k:IntKind} {n:Int} (H:ct F h (.i k n::ds) ab):∃us,ab=.int k n::us∧ct F h ds us:=by
 cases H with
 | i t=>exact ⟨_,rfl,t⟩
theorem ct.str {x:List UInt8} (H:ct F h (.s x::ds) ab):∃us,ab=.str x::us∧x.length≤top∧ct F h ds us:=by
 cases H with
 | s af t=>exact ⟨_,rfl,af,t⟩
theorem ct.fH {size:Nat} {es:List (List D)} (H:ct F h (.l size es::ds) ab):∃v us,ab=v::us∧cF F h size es v∧ct F h ds us:=by
 cases H with
 | l aG af aQ hu bq kids ax t=>exact ⟨_,_,rfl,⟨aG,af,⟨_,aQ,hu,bq,kids⟩,ax⟩,t⟩
theorem ct.no (H:ct F h [] ab):ab=[]:=by cases H;rfl
end
theorem Iq {size:Nat}:∀(us:List (List V)) (i:Nat) (u:List V),(∀u ∈ us,u.length=size)→us[i]? =some u→(us.flatten.drop (i * size)).take size=u
 | [],i,u,_,h=>by simp at h
 | w::us,0,u,ai,h=>by
   simp only [List.getElem?_cons_zero,Option.some.injEq] at h
   subst h
   rw [Nat.zero_mul,List.drop_zero,List.flatten_cons,List.take_left' (ai _ (by simp))]
 | w::us,i+1,u,ai,h=>by
   rw [show (i+1) * size=size+i * size from by rw [Nat.succ_mul,Nat.add_comm],←List.drop_drop,List.flatten_cons,List.drop_left' (ai _ (by simp))]
   exact Iq us i u (fun u hu=>ai u (by simp [hu])) (by simpa using h)
theorem Ir {size:Nat}:∀(us:List (List V)),(∀u ∈ us,u.length=size)→us.flatten.length=us.length * size
 | [],_=>by simp
 | w::us,ai=>by rw [List.flatten_cons,List.length_append,ai w (by simp),Ir us (fun u hu=>ai u (by simp [hu])),List.length_cons,Nat.succ_mul,Nat.add_comm]
section
variable {F:aO→Prop} {h aa:ae} {size:Nat} {es:List (List D)} {v:V}
theorem cF.cons {ds:List D} {ab:List V} (H:cF F h size es v) (t:ct F h ds ab):ct F h (.l size es::ds) (v::ab):=by
 obtain ⟨us,a,b,c,d⟩:=H.ex
 exact .l H.room H.le a b c d H.vc t
theorem cF.ext (H:cF F h size es v) (e:Ext h aa):cF F aa size es v:=by
 obtain ⟨us,a,b,c,d⟩:=H.ex
 exact ⟨H.room,H.le,⟨us,a.ext e,b,c,fun i x u aj ay=>(d i x u aj ay).ext e⟩,H.vc⟩
theorem cF.mod {dn M:aO→Prop} (m:Mod M h aa) (cR:∀b,F b→Old h b→¬M b∧dn b) (H:cF F h size es v):cF dn aa size es v:=by
 obtain ⟨us,a,b,c,d⟩:=H.ex
 exact ⟨H.room,H.le,⟨us,a.mod m fun x q=>(cR x (H.vc x q) (a.b0 q)).1,b,c,fun i x u aj ay=>(d i x u aj ay).mod m cR⟩,fun x q=>(cR x (H.vc x q) (a.b0 q)).2⟩
theorem cF.k8 {dn:aO→Prop} (H:cF F h size es v) (w:∀b,F b→dn b):cF dn h size es v:=by
 obtain ⟨us,a,b,c,d⟩:=H.ex
 exact ⟨H.room,H.le,⟨us,a,b,c,fun i x u aj ay=>(d i x u aj ay).k8 w⟩,fun b q=>w b (H.vc b q)⟩
theorem cF.len (H:cF F h size es v):iO v=some (.int .i64 es.length):=by
 obtain ⟨us,a,_⟩:=H.ex
 exact a.len
theorem cF.one (H:cF F h size es v):v.one=true∧v.cells=[v]∧v.e_=true:=by
 obtain ⟨us,a,_⟩:=H.ex
 exact a.one
theorem cF.nil (F:aO→Prop) (h:ae) (size:Nat):cF F h size [] .cq:=⟨fun b o l c e=>(by cases e),Nat.zero_le _,⟨[],⟨by simp,rfl⟩,rfl,fun u hu=>(by cases hu),fun i e u q=>(by simp at q)⟩,fun b q=>q.elim⟩
theorem cF.at (H:cF F h size es v) {k:IntKind} {i:Nat} (aB:i<es.length):
 ∃b off u,jS size v (.int k i)=some (.ptr b (off+i * size))∧ct F h es[i] u∧u.length=size∧(∀aa,Ext h aa→mA size (aa.get b) (off+i * size)=some (.agg u))∧∀aa,Ext h aa→∀j,j<size→hc (aa.get b) (off+i * size+j)=u[j]? :=by
 obtain ⟨us,U,ad,ai,aI⟩:=H.ex
 have Jc:i<us.length:=by omega
 have hu:=List.getElem?_eq_getElem Jc
 obtain ⟨b,off,aE,aM⟩:=U.c4 (k:=k) aB
 have ax:=Iq us i _ ai hu
 have iI:=Ir us ai
 have hle:i * size+size≤us.length * size:=by
  have:=Nat.mul_le_mul_right size (show i+1≤us.length by omega)
  rw [Nat.succ_mul] at this
  exact this
 have JM:us[i].length=size:=ai _ (List.getElem_mem Jc)
 refine ⟨b,off,us[i],aE,aI i _ _ (List.getElem?_eq_getElem aB) hu,JM,fun aa e=>?_,fun aa e j bH=>?_⟩
 · rw [(aM.ext e).hY (i:=i * size) (n:=size) (by omega),ax]
 · rw [Nat.add_assoc,(aM.ext e).fS (i:=i * size+j) (by omega)]
   have:((us.flatten.drop (i * size)).take size)[j]? =us[i][j]? :=by rw [ax]
   rw [List.getElem?_take_of_lt bH,List.getElem?_drop] at this
   rw [←this,List.getElem?_eq_getElem (by omega)]
end
end Go.Proofs.YtkehcalakofigaaGreatDoor.a1
namespace Go.Proofs.YtkehcalakofigaaGreatDoor.a1
variable [Lay]
open Go Go.RowKit
def Any (_:aO):Prop:=True
theorem MH:∀{ms:List Nat},(∀(i k:Nat),ms[i]? =some k→1≤k)→ms.length≤ms.sum
 | [],_=>Nat.le_refl _
 | m::ms,h=>by
   have bb:=h 0 m rfl
   have:=MH (ms:=ms) fun i k q=>h (i+1) k (by simpa using q)
   simp only [List.length_cons,List.sum_cons]
   omega
theorem MG:∀{ms:List Nat} {i k:Nat},ms[i]? =some k→k≤ms.sum
 | [],_,_,h=>by simp at h
 | m::ms,0,k,h=>by simp only [List.getElem?_cons_zero,Option.some.injEq] at h;subst h;simp only [List.sum_cons];omega
 | m::ms,i+1,k,h=>by
   have:=MG (ms:=ms) (i:=i) (k:=k) (by simpa using h)
   simp only [List.sum_cons];omega
structure Has (h:ae) (n:Nat) (l:List V):Prop where
 lt:n<h.next
 g:h.get (aH n)=.bk l 0 false
theorem Has.ext {h aa:ae} {n:Nat} {l:List V} (B:Has h n l) (e:Ext h aa):Has aa n l:=⟨Nat.lt_of_lt_of_le B.lt e.next,(e.get _ (gS B.lt)).trans B.g⟩
theorem iB (h:ae) (l:List V):∃H,h.new (.bk l 0 false)=H∧Ext h H∧Has H h.next l:=⟨_,rfl,(Ext.refl h).new _,by rw [gw];omega,l9 _⟩
theorem j' (h:ae) (z l:List V):∃H,(h.new (.bk z 0 false)).set (aH h.next) (.bk l 0 false)=H∧Ext h H∧Has H h.next l:=
 ⟨_,rfl,((Ext.refl h).new _).set (Nat.le_refl _) _,by rw [lL,gw];omega,by rw [dG,if_pos rfl]⟩
theorem Has.set {h:ae} {n m:Nat} {l:List V} (B:Has h n l) (hm:n≠m) (k:bV):Has (h.set (aH m) k) n l:=⟨by rw [lL];exact B.lt,by rw [dG,if_neg (by rw [oP];exact fun q=>hm q.symm)];exact B.g⟩
theorem Has.put {h:ae} {n:Nat} {l:List V} (B:Has h n l) (dZ:List V):Has (h.set (aH n) (.bk dZ 0 false)) n dZ:=⟨by rw [lL];exact B.lt,by rw [dG,if_pos rfl]⟩
theorem cF.set {F:aO→Prop} {h:ae} {size:Nat} {es:List (List D)} {v:V} (H:cF F h size es v) {b:aO} (af:¬F b) (k:bV):cF F (h.set b k) size es v:=
 H.mod ((Mod.refl (fun x=>x=b) h).set (fun _=>rfl) k) fun x q _=>⟨fun e=>af (e ▸ q),q⟩
theorem ct.ZT {F:aO→Prop} {h:ae} {ds:List D} {ab:List V} (H:ct F h ds ab):ct (Old h) h ds ab:=H.b0.k8 fun _ q=>q.2
theorem EN {h:ae} {n:Nat} (a7:h.next≤n):¬Old h (aH n):=fun q=>by unfold Old at q;rw [dR] at q;omega
theorem j1 {i n:Nat} (h:i<n) (a7:n≤4611686018427387904):IntKind.i64.wrap ((i:Int)+1)=((i+1:Nat):Int):=by rw [wrap_i64 (by omega) (by omega)];rfl
def encI (i:Int):List D:=[.i .i64 i]
theorem cF.Ec {F:aO→Prop} {h:ae} {l:List Int} {v:V} (H:cF F h 1 (l.map encI) v) {k:IntKind} {i:Nat} (aB:i<l.length):
 ∃b off,jS 1 v (.int k i)=some (.ptr b (off+i * 1))∧∀aa,Ext h aa→hc (aa.get b) (off+i * 1)=some (.int .i64 l[i]):=by
 obtain ⟨b,off,u,aE,aM,b9,_,gD⟩:=H.at (k:=k) (i:=i) (by rw [List.length_map];exact aB)
 rw [List.getElem_map,encI] at aM
 obtain ⟨us,rfl,kM⟩:=ct.int aM
 obtain rfl:=kM.no
 exact ⟨b,off,aE,fun aa e=>by simpa using gD aa e 0 (by omega)⟩
def iq (n:Nat) (b:aO):aO:=aH (n+cr b)
mutual
def V.cz (n:Nat):V→V
 | .ptr b o=>.ptr (iq n b) o
 | .slice b o l c=>.slice (iq n b) o l c
 | .dP b o l c=>.dP (iq n b) o l c
 | .fy b o l c=>.fy (iq n b) o l c
 | .map b=>.map (iq n b)
 | .func f cs=>.func f (im n cs)
 | .jW f cs=>.jW f (im n cs)
 | .iface t v=>.iface t (v.cz n)
 | .agg cs=>.agg (im n cs)
 | .tuple cs=>.tuple (im n cs)
 | .bad=>.bad | .bool b=>.bool b | .int k i=>.int k i | .str s=>.str s | .ju=>.ju | .cq=>.cq | .iR=>.iR | .iQ=>.iQ | .nilIface=>.nilIface
def im (n:Nat):List V→List V
 | []=>[]
 | v::ab=>v.cz n::im n ab
end
theorem Mo (n:Nat):∀l:List V,im n l=l.map (V.cz n)
 | []=>by simp [im]
 | v::l=>by rw [im,Mo n l,List.map_cons]
def bX.cz (n:Nat) (m:bX):bX:=⟨m.k.cz n,m.v.cz n,m.born⟩
noncomputable def bV.cz (n:Nat):bV→bV
 | .cells m cs cj st=>.bk ((fN cs 0 m).map (V.cz n)) cj st
 | .iter s pos=>.iter s pos
 | .mp es clock=>.mp (es.map (bX.cz n)) clock
 | .gf es=>.gf (es.map (bX.cz n))
 | _=>.dead
noncomputable def ae.mT (h ar:ae):Nat→ae
 | 0=>h
 | k+1=>(h.mT ar k).new ((ar.get (aH k)).cz h.next)
theorem sy (h ar:ae):∀k,(h.mT ar k).next=h.next+k
 | 0=>rfl
 | k+1=>by rw [ae.mT,gw,sy h ar k];omega
theorem Gz (h ar:ae):∀k,Ext h (h.mT ar k)
 | 0=>Ext.refl h
 | k+1=>(Gz h ar k).new _
theorem A3 (h ar:ae):∀(k i:Nat),i<k→(h.mT ar k).get (aH (h.next+i))=(ar.get (aH i)).cz h.next
 | 0,i,aB=>absurd aB (by omega)
 | k+1,i,aB=>by
   rw [ae.mT,gE,sy]
   by_cases e:i=k
   · subst e;rw [if_pos rfl]
   · rw [if_neg (fun q=>e (by have:=gT q;omega)),A3 h ar k i (by omega)]
theorem GA (h ar:ae) (b:aO):∀(k:Nat),(cr b<h.next∨h.next+k≤cr b)→(h.mT ar k).get b=h.get b
 | 0,_=>rfl
 | k+1,af=>by
   rw [ae.mT,gE,sy,if_neg (fun q=>by subst q;rw [dR] at af;omega)]
   exact GA h ar b k (by omega)
noncomputable def ae.app (h ar:ae):ae:=h.mT ar ar.next
noncomputable def lj (h ar:ae) (E bN:Env):Env:=fun b=>if h.next≤cr b∧cr b<h.next+ar.next then bN (aH (cr b-h.next)) else E b
section
variable {aw:Fr} {E bN:Env} {h ar:ae} {w bI:World}
theorem A2 (s:aW aw E h w):E.le (lj h ar E bN):=fun b p q=>by
 unfold lj
 rw [if_neg]
 · exact q
 · rintro ⟨U,_⟩
   have:=s.fresh (cr b) U
   rw [rR] at this
   rw [this] at q;cases q
theorem nW (s2:aW ⟨w,fun _=>none⟩ bN ar bI) {b:aO} {p:gY} (q:bN b=some p):lj h ar E bN (iq h.next b)=some p:=by
 unfold lj iq
 have aN:cr b<ar.next:=by
  rcases Nat.lt_or_ge (cr b) ar.next with ay | ay
  · exact ay
  · have:=s2.fresh _ ay
    rw [rR,q] at this;cases this
 rw [dR,if_pos ⟨by omega,by omega⟩,show h.next+cr b-h.next=cr b from by omega,rR]
 exact q
mutual
theorem oR (s2:aW ⟨w,fun _=>none⟩ bN ar bI):∀(v:V) (x:Value),Rel bN v x→Rel (lj h ar E bN) (v.cz h.next) x
 | .bad,x,q=>by simp only [V.cz,Rel]
 | .bool _,x,q=>by simpa only [V.cz,Rel] using q
 | .int _ _,x,q=>by simpa only [V.cz,Rel] using q
 | .str _,x,q=>by simpa only [V.cz,Rel] using q
 | .ju,x,q=>by simpa only [V.cz,Rel] using q
 | .cq,x,q=>by simpa only [V.cz,Rel] using q
 | .iR,x,q=>by simpa only [V.cz,Rel] using q
 | .iQ,x,q=>by simpa only [V.cz,Rel] using q
 | .nilIface,x,q=>by simpa only [V.cz,Rel] using q
 | .ptr b o,x,q=>by
   simp only [V.cz,Rel] at q ⊢
   obtain ⟨p,aj,ay⟩:=q
   exact ⟨p,nW s2 aj,ay⟩
 | .slice b o l c,x,q=>by
   simp only [V.cz,Rel] at q ⊢
   obtain ⟨p,aj,ay⟩:=q
   exact ⟨p,nW s2 aj,ay⟩
 | .dP b o l c,x,q=>by
   simp only [V.cz,Rel] at q ⊢
   obtain ⟨p,aj,ay⟩:=q
   exact ⟨p,nW s2 aj,ay⟩
 | .fy b o l c,x,q=>by simpa only [V.cz,Rel] using q
 | .map b,x,q=>by
   simp only [V.cz,Rel] at q ⊢
   obtain ⟨p,aj,ay⟩:=q
   exact ⟨p,nW s2 aj,ay⟩
 | .func f cs,x,q=>by
   simp only [V.cz,Rel] at q ⊢
   rcases q with ⟨aj,a,ay,aK⟩ | ⟨aj,b,p,rfl,aK,bE⟩
   · exact .inl ⟨aj,a,ay,wN s2 cs _ aK⟩
   · exact .inr ⟨aj,iq h.next b,p,by simp only [im,V.cz],nW s2 aK,bE⟩
 | .jW f cs,x,q=>by
   simp only [V.cz,Rel] at q ⊢
   obtain ⟨aj,a,ay,aK⟩:=q
   exact ⟨aj,a,ay,wN s2 cs _ aK⟩
 | .iface t v,x,q=>by
   simp only [V.cz,Rel] at q ⊢
   obtain ⟨y,aj,ay⟩:=q
   exact ⟨y,aj,oR s2 v y ay⟩
 | .agg cs,x,q=>by
   simp only [V.cz,Rel] at q ⊢
   obtain ⟨a,aj,ay⟩:=q
   exact ⟨a,aj,wN s2 cs _ ay⟩
 | .tuple cs,x,q=>by
   simp only [V.cz,Rel] at q ⊢
   obtain ⟨a,aj,ay⟩:=q
   exact ⟨a,aj,wN s2 cs _ ay⟩
theorem wN (s2:aW ⟨w,fun _=>none⟩ bN ar bI):∀(v:List V) (x:List Value),aY bN v x→aY (lj h ar E bN) (im h.next v) x
 | [],x,q=>by simpa only [im,aY] using q
 | v::ab,x,q=>by
   simp only [im,aY] at q ⊢
   obtain ⟨y,b2,aj,ay,aK⟩:=q
   exact ⟨y,b2,aj,oR s2 v y ay,wN s2 ab b2 aK⟩
end
theorem KU (s2:aW ⟨w,fun _=>none⟩ bN ar bI):∀(v:List bX) (x:List MapEntry),dp bN v x→dp (lj h ar E bN) (v.map (bX.cz h.next)) x
 | [],x,q=>by simpa only [List.map_nil,dp] using q
 | v::ab,x,q=>by
   simp only [List.map_cons,dp,bX.cz] at q ⊢
   obtain ⟨y,b2,aj,ay,aK,bE,dh⟩:=q
   exact ⟨y,b2,aj,oR s2 _ _ ay,oR s2 _ _ aK,bE,KU s2 ab b2 dh⟩
theorem MX (s2:aW ⟨w,fun _=>none⟩ bN ar bI):∀(v:List bX) (x:List MapEntry),iA bN v x→iA (lj h ar E bN) (v.map (bX.cz h.next)) x
 | [],x,q=>by simpa only [List.map_nil,iA] using q
 | v::ab,x,q=>by
   simp only [List.map_cons,iA,bX.cz] at q ⊢
   obtain ⟨y,b2,aj,ay,aK,dh⟩:=q
   exact ⟨y,b2,aj,oR s2 _ _ ay,oR s2 _ _ aK,MX s2 ab b2 dh⟩
theorem yj (cs:T V):∀(n off i:Nat),i<n→(fN cs off n)[i]? =some (T.get .bad (aH (off+i)) cs)
 | 0,_,i,aB=>absurd aB (by omega)
 | n+1,off,0,_=>by simp [fN]
 | n+1,off,i+1,aB=>by
   rw [fN,List.getElem?_cons_succ,yj cs n (off+1) i (by omega)]
   congr 3
   omega
theorem OM (hw:aw.w.heap.size≤w.heap.size) (s2:aW ⟨w,fun _=>none⟩ bN ar bI) {b:aO} {k:bV} (H:e' w.heap.size bN bI b k):e' aw.w.heap.size (lj h ar E bN) bI (iq h.next b) (k.cz h.next):=by
 cases k with
 | cells n cs cj st=>
   obtain ⟨a7,p,c,el,bG,U,ad,aI,br,cp,f',hT⟩:=H
   have ai:((fN cs 0 n).map (V.cz h.next)).length=n:=by rw [List.length_map,qX]
   refine ⟨by rw [ai];exact a7,p,c,el,bG,nW s2 U,Nat.le_trans hw ad,aI,br,cp,f',by rw [ai];exact hT.1,fun i y aB aZ=>?_⟩
   rw [ai] at aB
   have:=yi ((fN cs 0 n).map (V.cz h.next)) 0 i .e
   rw [Nat.zero_add,if_pos (by rw [ai];exact aB),List.getElem?_map,yj cs n 0 i aB] at this
   rw [this]
   simp only [Option.map_some,Option.getD_some,Nat.zero_add]
   exact oR s2 _ _ (hT.2 i y aB aZ)
 | iter st pos=>
   obtain ⟨p,U,ad,aI⟩:=H
   exact ⟨p,nW s2 U,Nat.le_trans hw ad,aI⟩
 | mp es clock=>
   obtain ⟨p,a,U,ad,aI,br⟩:=H
   exact ⟨p,a,nW s2 U,Nat.le_trans hw ad,aI,KU s2 _ _ br⟩
 | gf es=>
   obtain ⟨p,a,c,l,U,ad,aI,br,cp⟩:=H
   exact ⟨p,a,c,l,nW s2 U,Nat.le_trans hw ad,aI,MX s2 _ _ br,cp⟩
 | _=>trivial
theorem zy {k:bV} {n:Nat} (H:(k.cz n).own=true):k.own=true:=by
 cases k<;>simp_all [bV.cz,bV.own]
theorem Lm {B:Nat} {b:aO} {k:bV} {p:gY} (H:e' B E w b k) (aP:k.own=true) (q:E b=some p):B≤p.bd∧p.bd<w.heap.size:=by
 have lt:∀{o:Obj},w.heap[p.bd]? =some o→p.bd<w.heap.size:=fun {o} q=>by
  rcases Nat.lt_or_ge p.bd w.heap.size with ay | ay
  · exact ay
  · rw [Array.getElem?_eq_none ay] at q;cases q
 cases k with
 | cells n cs cj st=>
   obtain ⟨_,p',c,el,bG,U,ad,aI,_⟩:=H
   rw [q] at U;cases U
   exact ⟨ad,lt aI⟩
 | iter st pos=>
   obtain ⟨p',U,ad,_,aI⟩:=H
   rw [q] at U;cases U
   exact ⟨ad,lt aI⟩
 | mp es clock=>
   obtain ⟨p',a,U,ad,aI,_⟩:=H
   rw [q] at U;cases U
   exact ⟨ad,lt aI⟩
 | gf es=>
   obtain ⟨p',a,c,l,U,ad,aI,_⟩:=H
   rw [q] at U;cases U
   exact ⟨ad,lt aI⟩
 | dv l=>
   obtain ⟨p',o,U,ad,aI,_⟩:=H
   rw [q] at U;cases U
   exact ⟨ad,lt aI⟩
 | e0=>
   obtain ⟨p',U,ad,aI⟩:=H
   rw [q] at U;cases U
   exact ⟨ad,lt aI⟩
 | hd src since seen last=>
   obtain ⟨p',m,a,U,ad,_,aI,_⟩:=H
   rw [q] at U;cases U
   exact ⟨ad,lt aI⟩
 | dead=>cases aP
 | view n cs=>cases aP
theorem Mr (s:aW aw E h w) (s2:aW ⟨w,fun _=>none⟩ bN ar bI):aW aw (lj h ar E bN) (h.app ar) bI:=by
 have Mj:=s.below s2.frame
 have hw:aw.w.heap.size≤w.heap.size:=s.frame.size
 have cs:∀b,(h.next≤cr b∧cr b<h.next+ar.next∧∃i,i<ar.next∧b=iq h.next (aH i)∧(h.app ar).get b=(ar.get (aH i)).cz h.next∧lj h ar E bN b=bN (aH i))∨
  ((cr b<h.next∨h.next+ar.next≤cr b)∧(h.app ar).get b=h.get b∧lj h ar E bN b=E b):=fun b=>by
  by_cases q:h.next≤cr b∧cr b<h.next+ar.next
  · refine .inl ⟨q.1,q.2,cr b-h.next,by omega,?_,?_,if_pos q⟩
    · unfold iq
      rw [dR,show h.next + (cr b-h.next)=cr b from by omega,rR]
    · have:=A3 h ar ar.next (cr b-h.next) (by omega)
      rw [show h.next + (cr b-h.next)=cr b from by omega,rR] at this
      exact this
  · exact .inr ⟨by omega,GA h ar b _ (by omega),if_neg q⟩
 have Lb:∀b p,(h.get b).own=true→E b=some p→p.bd<w.heap.size:=fun b p aP q=>by
  have af:e' aw.w.heap.size E w b (h.get b):=s.at q
  exact (Lm af aP q).2
 have KY:∀i p,(ar.get (aH i)).own=true→bN (aH i)=some p→w.heap.size≤p.bd:=fun i p aP q=>(Lm (s2.bd _ rfl) aP q).1
 refine ⟨fun b af=>?_,fun b k aA=>?_,fun b bz p p' cT cG aE aM ah=>?_,fun i aB=>?_,Mj.frame,s.laid,fun b p n c st aD he=>?_⟩
 · rcases cs b with ⟨_,_,i,aB,rfl,aE,aM⟩ | ⟨_,aE,aM⟩
   · rw [aE]
     exact OM hw s2 (s2.bd _ rfl)
   · rw [aE]
     exact (Mj.bd b af).mono (A2 s)
 · obtain ⟨aj,ay,i,aB,rfl⟩:=s.lN b k aA
   rcases cs (aH i) with ⟨bC,_⟩ | ⟨_,aE,aM⟩
   · rw [dR] at bC;omega
   · refine ⟨aE.trans aj,aM.trans ay,i,?_,rfl⟩
     show i < (h.mT ar ar.next).next
     rw [sy];omega
 · rcases cs b with ⟨_,_,i,aB,rfl,g1,g2⟩ | ⟨_,g1,g2⟩<;>rcases cs bz with ⟨_,_,j,bH,rfl,g3,g4⟩ | ⟨_,g3,g4⟩
   · rw [g1] at cT;rw [g3] at cG;rw [g2] at aE;rw [g4] at aM
     rw [s2.inj _ _ _ _ (zy cT) (zy cG) aE aM ah]
   · rw [g1] at cT;rw [g3] at cG;rw [g2] at aE;rw [g4] at aM
     have a:=KY _ _ (zy cT) aE
     have b:=Lb _ _ cG aM
     omega
   · rw [g1] at cT;rw [g3] at cG;rw [g2] at aE;rw [g4] at aM
     have a:=KY _ _ (zy cG) aM
     have b:=Lb _ _ cT aE
     omega
   · rw [g1] at cT;rw [g3] at cG;rw [g2] at aE;rw [g4] at aM
     exact s.inj _ _ _ _ cT cG aE aM ah
 · have a7:(h.app ar).next=h.next+ar.next:=sy h ar ar.next
   rw [a7] at aB
   rcases cs (aH i) with ⟨bC,bY,_⟩ | ⟨_,aE,aM⟩
   · rw [dR] at bY;omega
   · rw [aM];exact s.fresh i (by omega)
 · rcases cs b with ⟨_,_,i,aB,rfl,g1,g2⟩ | ⟨_,g1,g2⟩
   · rw [g2] at he
     cases aA:ar.get (aH i) with
     | cells fU fz adz aeq=>
       rw [g1,aA] at aD
       simp only [bV.cz,bV.bk,bV.cells.injEq] at aD
       obtain ⟨_,_,q,_⟩:=aD
       subst q
       exact s2.base _ _ _ _ _ aA he
     | _=>rw [g1,aA] at aD;simp [bV.cz] at aD
   · rw [g1] at aD;rw [g2] at he
     exact s.base _ _ _ _ _ aD he
end
theorem R_ {C:Ctx} (cR:C.P.follows .mixedOrders=true) (bw:dJ C.P) (fg:l0 C) {n:Nat} {f:FuncId} {ar:ae} {v:V} (ax:Nat.beq f cM=false) (ao:C.ext f=none) (gq:∃fn,C.P.funcs[f]? =some fn∧fn.body.isSome=true)
 (he:ob C n f [] ae.empty=.val v ar) (h:ae):eo C.P f [] h (v.cz h.next) (h.app ar):=by
 refine ⟨fun e=>by subst e;simp at ax,.inl ⟨gq,fun aw E w xs ai s=>?_⟩⟩
 simp only [aY] at ai
 subst ai
 obtain ⟨_,hD⟩:=B8 cR bw fg ax ao he (aw:=⟨w,fun _=>none⟩) (E:=fun _=>none) (w:=w) (xs:=[]) rfl (z8 w (Lay.fc s.laid s.frame))
 refine hD.mono fun e al aF=>?_
 obtain ⟨av,x,rfl,_,ay,aK⟩:=aF
 exact ⟨_,x,rfl,A2 s,oR aK _ _ ay,Mr s aK⟩
theorem Oe (h ar:ae):Ext h (h.app ar):=Gz h ar _
theorem GC (h ar:ae) {i:Nat} (aB:i<ar.next):(h.app ar).get (aH (h.next+i))=(ar.get (aH i)).cz h.next:=A3 h ar _ i aB
theorem GD (h ar:ae):(h.app ar).next=h.next+ar.next:=sy h ar _
end Go.Proofs.YtkehcalakofigaaGreatDoor.a1
namespace Go.Proofs.YtkehcalakofigaaGreatDoor.a1
variable [Lay]
open Go Go.RowKit
def Eh:IntKind→IntKind→Bool
 | .i8,.i8 | .i16,.i16 | .i32,.i32 | .i64,.i64 | .u8,.u8 | .u16,.u16 | .u32,.u32 | .u64,.u64=>true
 | _,_=>false
theorem Ke {a b:IntKind} (h:Eh a b=true):a=b:=by cases a<;>cases b<;>first | rfl | cases h
def pM:Int→Int→Bool
 | .ofNat a,.ofNat b=>Nat.beq a b
 | .negSucc a,.negSucc b=>Nat.beq a b
 | _,_=>false
theorem yV {a b:Int} (h:pM a b=true):a=b:=by
 cases a<;>cases b<;>simp only [pM] at h<;>first | (rw [Nat.eq_of_beq_eq_true h]) | (cases h)
def GP:Bool→Bool→Bool
 | true,true | false,false=>true
 | _,_=>false
theorem OC {a b:Bool} (h:GP a b=true):a=b:=by cases a<;>cases b<;>first | rfl | cases h
def z7:List UInt8→List UInt8→Bool
 | [],[]=>true
 | a::sC,b::dY=>Nat.beq a.toNat b.toNat&&z7 sC dY
 | _,_=>false
theorem Mh:∀{a b:List UInt8},z7 a b=true→a=b
 | [],[],_=>rfl
 | [],_::_,h=>by cases h
 | _::_,[],h=>by cases h
 | a::sC,b::dY,h=>by
   simp only [z7,Bool.and_eq_true] at h
   rw [Mh h.2,UInt8.toNat_inj.1 (Nat.eq_of_beq_eq_true h.1)]
def zp (jB:List D→List V→Bool) (size:Nat):List (List D)→List V→Bool
 | [],lu=>(match lu with | []=>true | _=>false)
 | e::es,lu=>Nat.beq (lu.take size).length size&&jB e (lu.take size)&&zp jB size es (lu.drop size)
noncomputable def ER (ar:ae) (jB:List D→List V→Bool) (size:Nat) (es:List (List D)):V→Bool
 | .cq=>(match es with | []=>true | _=>false)
 | .slice b off len cap=>Nat.beq len es.length&&Nat.ble len cap&&Nat.ble len top&&Nat.blt (cr b) ar.next&&(match ar.get b with
   | .cells n cs _ _=>Nat.ble (off+len * size) n&&zp jB size es (fN cs off (len * size))
   | _=>false)
 | _=>false
noncomputable def wq (ar:ae):Nat→List D→List V→Bool
 | 0,_,_=>false
 | f+1,ds,ab=>match ds with
   | []=>(match ab with | []=>true | _=>false)
   | d::ds=>match ab with
     | []=>false
     | v::ab=>(match d with
       | .i k n=>(match v with | .int bl fU=>Eh k bl&&pM n fU | _=>false)
       | .b x=>(match v with | .bool y=>GP x y | _=>false)
       | .s x=>(match v with | .str y=>z7 x y&&Nat.ble x.length top | _=>false)
       | .l size es=>ER ar (wq ar f) size es v)&&wq ar f ds ab
section
variable {h ar:ae}
def p0 (h ar:ae) (b:aO):Prop:=h.next≤cr b∧cr b<h.next+ar.next
theorem K' {jB:List D→List V→Bool} {size:Nat}:∀{es:List (List D)} {lu:List V},zp jB size es lu=true→
 ∃us:List (List V),lu=us.flatten∧us.length=es.length∧(∀u ∈ us,u.length=size)∧∀(i:Nat) (e:List D) (u:List V),es[i]? =some e→us[i]? =some u→jB e u=true
 | [],lu,H=>by
   cases lu with
   | nil=>exact ⟨[],rfl,rfl,fun u q=>(by cases q),fun i e u q=>(by simp at q)⟩
   | cons _ _=>cases H
 | e::es,lu,H=>by
   simp only [zp,Bool.and_eq_true] at H
   obtain ⟨us,aj,ay,aK,bE⟩:=K' H.2
   refine ⟨lu.take size::us,by rw [List.flatten_cons,←aj,List.take_append_drop],by simp [ay],fun u hu=>?_,fun i x u aE aM=>?_⟩
   · rcases List.mem_cons.1 hu with rfl | hu
     · exact Nat.eq_of_beq_eq_true H.1.1
     · exact aK u hu
   · cases i with
     | zero=>
       simp only [List.getElem?_cons_zero,Option.some.injEq] at aE aM
       subst aE aM
       exact H.1.2
     | succ i=>exact bE i x u (by simpa using aE) (by simpa using aM)
theorem TJ (cs:T V) (n off m:Nat) (hm:off+m≤n):((fN cs 0 n).drop off).take m=fN cs off m:=by
 apply List.ext_getElem?
 intro i
 by_cases aB:i<m
 · rw [List.getElem?_take_of_lt aB,List.getElem?_drop,yj cs n 0 _ (by omega),yj cs m off i aB,Nat.zero_add]
 · rw [List.getElem?_eq_none (by rw [List.length_take,List.length_drop,qX];omega),List.getElem?_eq_none (by rw [qX];omega)]
theorem ZR {jB:List D→List V→Bool} (aA:∀ds ab,jB ds ab=true→ct (p0 h ar) (h.app ar) ds (im h.next ab)) {size:Nat} {es:List (List D)} {v:V} (H:ER ar jB size es v=true):
 cF (p0 h ar) (h.app ar) size es (v.cz h.next):=by
 cases v<;>simp only [ER] at H<;>try (cases H;done)
 case cq=>
  cases es with
  | nil=>exact cF.nil _ _ _
  | cons _ _=>cases H
 case slice b off len cap=>
  simp only [Bool.and_eq_true] at H
  obtain ⟨⟨⟨⟨U,ad⟩,aI⟩,br⟩,cp⟩:=H
  have U:=Nat.eq_of_beq_eq_true U
  have ad:=Nat.le_of_ble_eq_true ad
  have aI:=Nat.le_of_ble_eq_true aI
  have br:cr b<ar.next:=Nat.le_of_ble_eq_true br
  cases aD:ar.get b<;>rw [aD] at cp<;>simp only at cp<;>try (cases cp;done)
  rename_i n cs cj st
  simp only [Bool.and_eq_true] at cp
  have f':=Nat.le_of_ble_eq_true cp.1
  obtain ⟨us,aj,ay,aK,bE⟩:=K' cp.2
  subst U
  have ot:(h.app ar).get (iq h.next b)=.bk ((fN cs 0 n).map (V.cz h.next)) cj st:=by
   have:=GC h ar br
   rw [rR,aD] at this
   exact this
  have iI:(us.map (List.map (V.cz h.next))).flatten=us.flatten.map (V.cz h.next):=by rw [List.map_flatten]
  have hlen:us.flatten.length=es.length * size:=by rw [←aj,qX]
  refine ⟨fun bz o l c e=>(by cases e;exact ad),aI,⟨us.map (List.map (V.cz h.next)),⟨by rw [iI,List.length_map,hlen],rfl,?_,_,.inr ⟨cj,st,ot⟩,?_,?_⟩,by rw [List.length_map,ay],fun u hu=>?_,fun i e u aE aM=>?_⟩,fun bz q=>?_⟩
  · unfold Old iq
    rw [dR,GD];omega
  · rw [iI,List.length_map,List.length_map,qX,hlen];exact f'
  · rw [iI,List.length_map,hlen,←List.map_drop,←List.map_take,TJ cs n off _ f',aj]
  · obtain ⟨fl,fu,rfl⟩:=List.mem_map.1 hu
    rw [List.length_map];exact aK fl fu
  · rw [List.getElem?_map] at aM
    cases aF:us[i]? with
    | none=>rw [aF] at aM;cases aM
    | some fl=>
      rw [aF] at aM
      simp only [Option.map_some,Option.some.injEq] at aM
      subst aM
      rw [←Mo]
      exact aA _ _ (bE i e fl aE aF)
  · simp only [V.cz,V.bd] at q
    subst q
    unfold p0 iq
    rw [dR]
    exact ⟨by omega,by omega⟩
theorem EO:∀{f:Nat} {ds:List D} {ab:List V},wq ar f ds ab=true→ct (p0 h ar) (h.app ar) ds (im h.next ab)
 | 0,_,_,H=>by cases H
 | f+1,ds,ab,H=>by
   cases ds with
   | nil=>
     cases ab with
     | nil=>exact .nil
     | cons _ _=>cases H
   | cons d ds=>
     cases ab with
     | nil=>cases H
     | cons v ab=>
       simp only [wq,Bool.and_eq_true] at H
       have t:=EO (f:=f) H.2
       have H1:=H.1
       rw [im]
       cases d with
       | i k n=>
         cases v<;>simp only at H1<;>try (cases H1;done)
         simp only [Bool.and_eq_true] at H1
         rw [Ke H1.1,yV H1.2]
         simp only [V.cz]
         exact .i t
       | b x=>
         cases v<;>simp only at H1<;>try (cases H1;done)
         rw [OC H1]
         simp only [V.cz]
         exact .b t
       | s x=>
         cases v<;>simp only at H1<;>try (cases H1;done)
         simp only [Bool.and_eq_true] at H1
         rw [←Mh H1.1]
         simp only [V.cz]
         exact .s (Nat.le_of_ble_eq_true H1.2) t
       | l size es=>exact (ZR (fun ds ab q=>EO (f:=f) q) H1).cons t
end
end Go.Proofs.YtkehcalakofigaaGreatDoor.a1
namespace Go.Proofs.YtkehcalakofigaaGreatDoor.a1
variable [Lay]
open Go Go.RowKit
def kt (k:Int):List (Int × List D)→Option (List D)
 | []=>none
 | (n,d)::l=>if k=n then some d else kt k l
inductive jy (F:aO→Prop) (h:ae):List (Int × List D)→List bX→Prop
 | nil:jy F h [] []
 | cons {n:Int} {ds:List D} {y:V} {born:Nat} {dH:List (Int × List D)} {es:List bX} (aV:ct F h ds y.cells) (t:jy F h dH es):jy F h ((n,ds)::dH) (⟨.int .i64 n,y,born⟩::es)
structure lb (F:aO→Prop) (h:ae) (dH:List (Int × List D)) (v:V):Prop where
 ex:∃b es,v=.map b∧Old h b∧((∃clock,h.get b=.mp es clock)∨h.get b=.gf es∧(dH.map Prod.fst).Nodup)∧jy F h dH es∧F b
section
variable {F:aO→Prop} {h aa:ae} {dH:List (Int × List D)} {es:List bX} {v:V}
theorem jy.ext (H:jy F h dH es) (e:Ext h aa):jy F aa dH es:=by
 induction H with
 | nil=>exact .nil
 | cons aV t bh=>exact .cons (aV.ext e) bh
theorem lb.ext (H:lb F h dH v) (e:Ext h aa):lb F aa dH v:=by
 obtain ⟨b,es,aj,ay,aK,bE,dh⟩:=H.ex
 exact ⟨b,es,aj,e.b0 ay,by rw [e.get b ay];exact aK,bE.ext e,dh⟩
theorem Md (k n:Int):jE.run (.int .i64 k) (.int .i64 n)=some (decide (k=n)):=by
 simp only [jE,V.dB,mY,cond_true,Cq]
theorem jy.jF (H:jy F h dH es) (k:Int):(kt k dH=none∧jF jE (.int .i64 k) es=some none)∨∃ds y,kt k dH=some ds∧ct F h ds y.cells∧Go.Proofs.YtkehcalakofigaaGreatDoor.a1.jF jE (.int .i64 k) es=some (some y):=by
 induction H with
 | nil=>exact .inl ⟨rfl,rfl⟩
 | @cons n ds y born dH es aV t bh=>
   simp only [kt,Go.Proofs.YtkehcalakofigaaGreatDoor.a1.jF,Md]
   by_cases q:k=n
   · subst q
     simp only [if_true,decide_true,cond_true]
     exact .inr ⟨ds,y,rfl,aV,rfl⟩
   · simp only [q,if_false,decide_false,cond_false]
     exact bh
theorem KN {k:Int} {ds:List D}:∀{dH:List (Int × List D)},kt k dH=some ds→k ∈ dH.map Prod.fst
 | [],h=>by cases h
 | (n,d)::l,h=>by
   simp only [kt] at h
   by_cases q:k=n
   · subst q;simp
   · rw [if_neg q] at h
     simp only [List.map_cons,List.mem_cons]
     exact .inr (KN h)
theorem jy.kd (H:jy F h dH es) (a7:(dH.map Prod.fst).Nodup) (k:Int):(kt k dH=none∧kd jE (.int .i64 k) es=some none)∨∃ds y,kt k dH=some ds∧ct F h ds y.cells∧Go.Proofs.YtkehcalakofigaaGreatDoor.a1.kd jE (.int .i64 k) es=some (some y):=by
 induction H with
 | nil=>exact .inl ⟨rfl,rfl⟩
 | @cons n ds y born dH es aV t bh=>
   simp only [List.map_cons,List.nodup_cons] at a7
   have bh:=bh a7.2
   simp only [kt,Go.Proofs.YtkehcalakofigaaGreatDoor.a1.kd,Md]
   by_cases q:k=n
   · subst q
     rcases bh with ⟨_,e⟩ | ⟨_,_,e,_⟩
     · simp only [e,if_true,decide_true,cond_true]
       exact .inr ⟨ds,y,rfl,aV,rfl⟩
     · exact absurd (KN e) a7.1
   · rcases bh with ⟨aE,e⟩ | ⟨oe,o',aE,aM,e⟩
     · simp only [e,q,if_false,decide_false,cond_false]
       exact .inl ⟨aE,trivial⟩
     · simp only [e,q,if_false,decide_false,cond_false]
       exact .inr ⟨oe,o',aE,aM,rfl⟩
theorem lb.look (H:lb F h dH v) (k:Int) (z:V) (ok:Bool):(kt k dH=none∧jr jE z ok h v (.int .i64 k)=some (bif ok then .tuple [z,.bool false] else z))∨
 ∃ds y,kt k dH=some ds∧ct F h ds y.cells∧jr jE z ok h v (.int .i64 k)=some (bif ok then .tuple [y,.bool true] else y):=by
 obtain ⟨b,es,rfl,_,aK,bE,_⟩:=H.ex
 rcases aK with ⟨clock,aK⟩ | ⟨aK,a7⟩
 · rcases bE.jF k with ⟨aE,e⟩ | ⟨ds,y,aE,aM,e⟩
   · exact .inl ⟨aE,by simp only [jr,aK,ny,oM,bV.iT,e]⟩
   · exact .inr ⟨ds,y,aE,aM,by simp only [jr,aK,ny,oM,bV.iT,e]⟩
 · rcases bE.kd a7 k with ⟨aE,e⟩ | ⟨ds,y,aE,aM,e⟩
   · exact .inl ⟨aE,by simp only [jr,aK,e]⟩
   · exact .inr ⟨ds,y,aE,aM,by simp only [jr,aK,e]⟩
end
noncomputable def wu (ar:ae) (f:Nat):List (Int × List D)→List bX→Bool
 | [],es=>(match es with | []=>true | _=>false)
 | (n,ds)::dH,es=>(match es with
   | []=>false
   | m::es=>(match m.k with | .int k i=>Eh k .i64&&pM i n | _=>false)&&wq ar f ds m.v.cells&&wu ar f dH es)
def zk:List Int→Bool
 | []=>true
 | n::l=>(l.all fun m=>!pM n m)&&zk l
noncomputable def zq (ar:ae) (f:Nat) (dH:List (Int × List D)):V→Bool
 | .map b=>Nat.blt (cr b) ar.next&&zk (dH.map Prod.fst)&&(match ar.get b with
   | .mp es _=>wu ar f dH es
   | .gf es=>wu ar f dH es
   | _=>false)
 | _=>false
theorem We:∀n:Int,pM n n=true
 | .ofNat a=>Nat.beq_refl a
 | .negSucc a=>Nat.beq_refl a
theorem K0:∀{l:List Int},zk l=true→l.Nodup
 | [],_=>List.nodup_nil
 | n::l,h=>by
   simp only [zk,Bool.and_eq_true] at h
   refine List.nodup_cons.2 ⟨fun q=>?_,K0 h.2⟩
   have:=List.all_eq_true.1 h.1 n q
   rw [We] at this
   cases this
theorem R0 (n:Nat) (v:V):(v.cz n).cells=im n v.cells:=by
 cases v<;>simp only [V.cz,V.cells,im]
section
variable {h ar:ae}
theorem EP {f:Nat}:∀{dH:List (Int × List D)} {es:List bX},wu ar f dH es=true→jy (p0 h ar) (h.app ar) dH (es.map (bX.cz h.next))
 | [],es,H=>by
   cases es with
   | nil=>exact .nil
   | cons _ _=>cases H
 | (n,ds)::dH,es,H=>by
   cases es with
   | nil=>cases H
   | cons m es=>
     simp only [wu,Bool.and_eq_true] at H
     obtain ⟨⟨U,ad⟩,aI⟩:=H
     obtain ⟨mk,dk,born⟩:=m
     cases mk<;>simp only at U<;>try (cases U;done)
     simp only [Bool.and_eq_true] at U
     rw [Ke U.1,yV U.2,List.map_cons]
     simp only [bX.cz,V.cz]
     exact .cons (by rw [R0];exact EO ad) (EP aI)
theorem ZQ {f:Nat} {dH:List (Int × List D)} {v:V} (H:zq ar f dH v=true):lb (p0 h ar) (h.app ar) dH (v.cz h.next):=by
 cases v<;>simp only [zq] at H<;>try (cases H;done)
 rename_i b
 simp only [Bool.and_eq_true] at H
 obtain ⟨⟨U,ad⟩,aI⟩:=H
 have U:cr b<ar.next:=Nat.le_of_ble_eq_true U
 have aD:=GC h ar U
 rw [rR] at aD
 have af:p0 h ar (iq h.next b):=by unfold p0 iq;rw [dR];exact ⟨by omega,by omega⟩
 have aP:Old (h.app ar) (iq h.next b):=by unfold Old iq;rw [dR,GD];omega
 cases aA:ar.get b<;>rw [aA] at aI<;>simp only at aI<;>try (cases aI;done)
 · rw [aA] at aD
   exact ⟨_,_,rfl,aP,.inl ⟨_,aD⟩,EP aI,af⟩
 · rw [aA] at aD
   exact ⟨_,_,rfl,aP,.inr ⟨aD,K0 ad⟩,EP aI,af⟩
end
end Go.Proofs.YtkehcalakofigaaGreatDoor.a1
namespace Go.Proofs.YtkehcalakofigaaGreatDoor.a1
variable [Lay]
open Go Go.RowKit
theorem jy.k8 {F dn:aO→Prop} {h:ae} {dH:List (Int × List D)} {es:List bX} (H:jy F h dH es) (w:∀b,F b→dn b):jy dn h dH es:=by
 induction H with
 | nil=>exact .nil
 | cons aV t bh=>exact .cons (aV.k8 w) bh
theorem lb.k8 {F dn:aO→Prop} {h:ae} {dH:List (Int × List D)} {v:V} (H:lb F h dH v) (w:∀b,F b→dn b):lb dn h dH v:=by
 obtain ⟨b,es,aj,ay,aK,bE,dh⟩:=H.ex
 exact ⟨b,es,aj,ay,aK,bE.k8 w,w b dh⟩
noncomputable def zr (C:Ctx) (n:Nat) (f:FuncId) (jB:ae→V→Bool):Bool:=match ob C n f [] ae.empty with
 | .val v ar=>jB ar v
 | _=>false
def nR (h:ae) (b:aO):Prop:=h.next≤cr b
section
variable {C:Ctx} (cR:C.P.follows .mixedOrders=true) (bw:dJ C.P) (fg:l0 C) {n:Nat} {f:FuncId} (ax:Nat.beq f cM=false) (ao:C.ext f=none) (gq:∃fn,C.P.funcs[f]? =some fn∧fn.body.isSome=true)
include cR bw fg ax ao gq
theorem R' {jB:ae→V→Bool} (H:zr C n f jB=true) (h:ae):∃v ar,jB ar v=true∧eo C.P f [] h (v.cz h.next) (h.app ar):=by
 unfold zr at H
 cases ar:ob C n f [] ae.empty with
 | fail=>rw [ar] at H;cases H
 | cb _ _=>rw [ar] at H;cases H
 | val v a6=>
   rw [ar] at H
   exact ⟨v,a6,H,R_ cR bw fg ax ao gq ar h⟩
theorem R9 {m:Nat} {dH:List (Int × List D)} (H:zr C n f (fun ar v=>zq ar m dH v)=true) (h:ae):bF C.P f [] h fun x aa=>Ext h aa∧lb (nR h) aa dH x:=by
 obtain ⟨v,ar,q,c⟩:=R' cR bw fg ax ao gq H h
 exact ⟨_,_,c,Oe _ _,(ZQ q).k8 fun b q=>q.1⟩
end
end Go.Proofs.YtkehcalakofigaaGreatDoor.a1
