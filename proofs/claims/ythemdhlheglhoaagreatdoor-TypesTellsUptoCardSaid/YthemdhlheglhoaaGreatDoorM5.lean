/- The abstract machine and its walks (a verified interpreter of the model's code: plain definitions and lemmas, no condition). Printed by a program from longer texts: names made short. -/
import Derived.Test.YthemdhlheglhoaaGreatDoorM4
import Derived.ChangeBears
import Derived.Carry
import Derived.OpenShut
import Derived.ChangeSame
import Derived.Handed
import Derived.HandedShaped
import Derived.Test.YthemdhlheglhoaaGreatDoorM3
set_option linter.unusedSectionVars false
set_option linter.unusedSimpArgs false
set_option linter.unusedVariables false
namespace Go.Proofs.YthemdhlheglhoaaGreatDoor.aX
variable [Lay]
open Go Go.RowKit
section
variable (P:Program)
def xK:List Field→Nat→Option Nat
 | [],o=>some o
 | f::cd,o=>if f.offset=o then xK cd (o+P.cellsOf f.type) else none
def u9:Bool:=(List.range P.types.size).all fun t=>match P.underlying t with
 | some (.struct cd)=>decide (xK P cd.toList 0=some (P.cellsOf t))
 | _=>true
def dB (h:af):Nat→Nat→TypeId→List V→Prop
 | 0,_,_,_=>False
 | n+1,m,t,ad=>match P.underlying t with
   | some .bool=>∃b,ad=[.bool b]
   | some (.int k)=>∃i,ad=[.int k i]∧(Lit.int k i).wf=true
   | some .string=>∃s:List UInt8,ad=[.str s]∧s.length+1≤m
   | some (.slice e)=>1≤m∧(ad=[.b6]∨(∃b i j k,ad=[.hA b i j k])∨P.cellsOf e=0∨
      ∃b len cap,ad=[.slice b 0 len cap]∧0<len∧len≤cap∧Old h b∧∃us,Rd h b us∧us.length=len * P.cellsOf e∧∃ms:List Nat,ms.length=len∧ms.sum+1≤m∧
       ∀(i k:Nat),ms[i]? =some k→1≤k∧dB h n k e ((us.drop (i * P.cellsOf e)).take (P.cellsOf e)))
   | some (.struct cd)=>ad.length=P.cellsOf t∧∃ms:List Nat,ms.length=cd.toList.length∧ms.sum+1≤m∧∀(i:Nat) (f:Field) (k:Nat),cd.toList[i]? =some f→ms[i]? =some k→1≤k∧dB h n k f.type ((ad.drop f.offset).take (P.cellsOf f.type))
   | some (.pointer e)=>1≤m∧(ad=[.mG]∨P.cellsOf e=0∨∃b,ad=[.ptr b 0]∧Old h b∧∃us,Rd h b us∧us.length=P.cellsOf e∧∃k,k+1≤m∧dB h n k e us)
   | some (.map _ _)=>ad=[.jL]∨ad=[.bad]
   | some (.interface _)=>ad=[.nilIface]∨ad=[.bad]
   | _=>True
end
theorem dB.ext {P:Program} {h aa:af} (e:Ext h aa):∀(n m:Nat) (t:TypeId) (ad:List V),dB P h n m t ad→dB P aa n m t ad
 | 0,_,_,_,H=>H
 | n+1,m,t,ad,H=>by
   unfold dB at H ⊢
   split at H<;>try exact H
   · refine ⟨H.1,?_⟩
     rcases H.2 with H | H | H | ⟨b,len,cap,ab,ae,aG,cz,us,bz,bZ,ms,fu,gI,kH⟩
     · exact .inl H
     · exact .inr (.inl H)
     · exact .inr (.inr (.inl H))
     · exact .inr (.inr (.inr ⟨b,len,cap,ab,ae,aG,e.b1 cz,us,e.rd cz bz,bZ,ms,fu,gI,fun i k aE=>⟨(kH i k aE).1,dB.ext e n _ _ _ (kH i k aE).2⟩⟩))
   · obtain ⟨ab,ms,ae,aG,ba⟩:=H
     exact ⟨ab,ms,ae,aG,fun i f k ay aE=>⟨(ba i f k ay aE).1,dB.ext e n _ _ _ (ba i f k ay aE).2⟩⟩
   · refine ⟨H.1,?_⟩
     rcases H.2 with H | H | ⟨b,ab,cz,us,bz,bZ,k,fu,gI⟩
     · exact .inl H
     · exact .inr (.inl H)
     · exact .inr (.inr ⟨b,ab,e.b1 cz,us,e.rd cz bz,bZ,k,fu,dB.ext e n _ _ _ gI⟩)
mutual
def fx {H:Type}:DataW H→Nat
 | .lit (.string bytes)=>bytes.length+1
 | .lit _=>1
 | .nil=>1
 | .ptr d=>fx d+1
 | .slice elems spare=>kY elems+kY spare+1
 | .agg parts=>kY parts+1
 | .iface _ d=>fx d+1
 | .map entries=>Bv entries+1
 | .held _=>1
def kY {H:Type}:List (DataW H)→Nat
 | []=>0
 | d::r=>fx d+kY r
def Bv {H:Type}:List (Lit × DataW H)→Nat
 | []=>0
 | x::r=>Fb x+Bv r
def Fb {H:Type}:Lit × DataW H→Nat
 | (.string bytes,d)=>bytes.length+fx d+1
 | (_,d)=>fx d+1
end
theorem qC {H:Type} (d:DataW H):1≤fx d:=by
 cases d with
 | lit l=>cases l<;>simp [fx]
 | _=>simp [fx]
theorem Fa {H:Type}:∀l:List (DataW H),kY l=(l.map fx).sum
 | []=>by simp [kY]
 | d::r=>by simp only [kY,List.map_cons,List.sum_cons,Fa r]
theorem BA {w:World} {base:Nat} {a:Addr} {n:Nat} {l:List Value} (h:w.cells? base a n=some l):l.length=n∧∀i,i<n→w.cell? (a.add i)=l[i]? :=by
 unfold World.cells? at h
 split at h
 · exact ⟨by simpa using mapM_some_length h,fun i aC=>mapM_some_get h i i (by simp [aC])⟩
 · cases h
theorem RS {E av:Env} (he:E.le av) {ad:List V} {l:List Value} (H:bc E ad l):bc av ad l:=bc.mono he ad l H
section
variable {H:Type} {enc:TypeId × Value→H} {P:Program} {W:World} {base:Nat} {sp:Nat→Bool} {held:Bool}
def Lays (P:Program) (W:World) (n m:Nat) (t:TypeId) (cs:List Value):Prop:=
 ∀(E:Env) (h:af),a' ⟨W,fun _=>none⟩ E h W→∃av aa ad,E.le av∧Ext h aa∧a' ⟨W,fun _=>none⟩ av aa W∧bc av ad cs∧ad.length=cs.length∧dB P aa n m t ad
theorem P2 (n size:Nat) (e:TypeId):∀(pieces:List (List Value)) (ms:List Nat),ms.length=pieces.length→(∀(i:Nat) (l:List Value) (k:Nat),pieces[i]? =some l→ms[i]? =some k→l.length=size∧Lays P W n k e l)→
 ∀(E:Env) (h:af),a' ⟨W,fun _=>none⟩ E h W→∃av aa us,E.le av∧Ext h aa∧a' ⟨W,fun _=>none⟩ av aa W∧bc av us pieces.flatten∧us.length=pieces.length * size∧
  ∀(i k:Nat),ms[i]? =some k→dB P aa n k e ((us.drop (i * size)).take size)
 | [],[],_,_,E,h,s=>⟨E,h,[],fun _ _ q=>q,Ext.refl h,s,rfl,by simp,fun i k aC=>by simp at aC⟩
 | [],_::_,ai,_,_,_,_=>by simp at ai
 | _::_,[],ai,_,_,_,_=>by simp at ai
 | l::ls,m::ms,kA,ah,E,h,s=>by
   obtain ⟨ai,H⟩:=ah 0 l m rfl rfl
   obtain ⟨fl,ab,ad,bH,a2,a3,a4,a5,iL⟩:=H E h s
   obtain ⟨cn,ae,us,cC,ck,hF,kq,kX,rW⟩:=P2 n size e ls ms (by simpa using kA) (fun i l k an az=>ah (i+1) l k (by simpa using an) (by simpa using az)) fl ab a3
   refine ⟨cn,ae,ad++us,bH.trans cC,a2.trans ck,hF,?_,?_,?_⟩
   · rw [List.flatten_cons]
     exact bc.append (RS cC a4) kq
   · rw [List.length_append,kX,a5,ai,List.length_cons,Nat.add_mul]
     omega
   · intro i k aC
     cases i with
     | zero=>
       rw [Nat.zero_mul,List.drop_zero,List.take_left' (by rw [a5,ai])]
       simp only [List.getElem?_cons_zero,Option.some.injEq] at aC
       subst aC
       exact dB.ext ck _ _ _ _ iL
     | succ i=>
       rw [Nat.add_mul,Nat.one_mul,Nat.add_comm,←List.drop_drop,List.drop_left' (by rw [a5,ai])]
       exact rW i k (by simpa using aC)
theorem P1 (n:Nat):∀(cd:List Field) (ms:List Nat) (o b8:Nat) (cs:List Value),xK P cd o=some b8→cs.length=b8→ms.length=cd.length→(∀(i:Nat) (f:Field) (k:Nat),cd[i]? =some f→ms[i]? =some k→Lays P W n k f.type ((cs.drop f.offset).take (P.cellsOf f.type)))→
 o≤b8∧∀(E:Env) (h:af),a' ⟨W,fun _=>none⟩ E h W→∃av aa ad,E.le av∧Ext h aa∧a' ⟨W,fun _=>none⟩ av aa W∧bc av ad (cs.drop o)∧ad.length=b8-o∧
  ∀(i:Nat) (f:Field) (k:Nat),cd[i]? =some f→ms[i]? =some k→o≤f.offset∧dB P aa n k f.type ((ad.drop (f.offset-o)).take (P.cellsOf f.type))
 | [],_::_,_,_,_,_,_,kA,_=>by simp at kA
 | _::_,[],_,_,_,_,_,kA,_=>by simp at kA
 | [],[],o,b8,cs,aF,ai,_,_=>by
   simp only [xK,Option.some.injEq] at aF
   subst aF
   refine ⟨Nat.le_refl _,fun E h s=>⟨E,h,[],fun _ _ q=>q,Ext.refl h,s,?_,by simp,fun i f k ay=>by simp at ay⟩⟩
   rw [List.drop_eq_nil_of_le (by omega)]
   rfl
 | f::cd,m::ms,o,b8,cs,aF,ai,kA,ah=>by
   simp only [xK] at aF
   by_cases ay:f.offset=o
   · rw [if_pos ay] at aF
     obtain ⟨g1,g2⟩:=P1 n cd ms (o+P.cellsOf f.type) b8 cs aF ai (by simpa using kA) (fun i f k an az=>ah (i+1) f k (by simpa using an) (by simpa using az))
     refine ⟨by omega,fun E h s=>?_⟩
     have uk:=ah 0 f m rfl rfl
     obtain ⟨fl,ab,ad,bH,a2,a3,a4,a5,iL⟩:=uk E h s
     obtain ⟨cn,ae,us,cC,ck,hF,kq,kX,rW⟩:=g2 fl ab a3
     have lg:ad.length=P.cellsOf f.type:=by rw [a5,List.length_take,List.length_drop,ay];omega
     refine ⟨cn,ae,ad++us,bH.trans cC,a2.trans ck,hF,?_,?_,?_⟩
     · have e:cs.drop o=(cs.drop f.offset).take (P.cellsOf f.type)++cs.drop (o+P.cellsOf f.type):=by
        rw [ay,←List.drop_drop,List.take_append_drop]
       rw [e]
       exact bc.append (RS cC a4) kq
     · rw [List.length_append,lg,kX]
       omega
     · intro i g k aH aE
       cases i with
       | zero=>
         simp only [List.getElem?_cons_zero,Option.some.injEq] at aH aE
         subst aH aE
         refine ⟨by omega,?_⟩
         rw [ay,Nat.sub_self,List.drop_zero,List.take_left' lg]
         exact dB.ext ck _ _ _ _ iL
       | succ i=>
         obtain ⟨bu,bI⟩:=rW i g k (by simpa using aH) (by simpa using aE)
         refine ⟨by omega,?_⟩
         rw [show g.offset-o=P.cellsOf f.type + (g.offset - (o+P.cellsOf f.type)) from by omega,←List.drop_drop,List.drop_left' lg]
         exact bI
   · rw [if_neg ay] at aF
     cases aF
theorem MJ {w:World} {a:Addr} {y:Value} (h:w.cell? a=some y):a.spot=none∧∃c el bW,w.heap[a.block]? =some (.cells c el bW)∧c[a.off]? =some y:=by
 refine ⟨World.cell?_spot h,?_⟩
 unfold World.cell? at h
 split at h
 · rename_i c el bW bf
   split at h
   · cases h
   · exact ⟨c,el,bW,bf,h⟩
 · cases h
theorem Vi (a:Addr) (n:Nat):(a.add n).block=a.block:=by unfold Addr.add;split<;>rfl
theorem Vj (a:Addr) (n:Nat):(a.add n).off=a.off+n:=by unfold Addr.add;split<;>simp_all
theorem ajf {w:World} {a:Addr} {l:List Value} (bb:0<l.length) (h:∀i,i<l.length→w.cell? (a.add i)=l[i]?):
 a.spot=none∧∃c el bW,w.heap[a.block]? =some (.cells c el bW)∧a.off+l.length≤c.size∧∀i,i<l.length→c[a.off+i]? =l[i]? :=by
 have Cj:w.cell? (a.add 0)=some l[0]:=by rw [h 0 bb];exact List.getElem?_eq_getElem bb
 obtain ⟨s1,c,el,bW,s2,jV⟩:=MJ Cj
 have cS:a.add 0=a:=by unfold Addr.add;simp
 rw [cS] at s1 s2 jV
 have key:∀i,i<l.length→c[a.off+i]? =l[i]? :=by
  intro i aC
  have q:=h i aC
  rw [List.getElem?_eq_getElem aC] at q ⊢
  obtain ⟨_,gP,alN,alP,t2,t3⟩:=MJ q
  rw [Vi,s2] at t2
  rw [Vj] at t3
  simp only [Option.some.injEq,Obj.cells.injEq] at t2
  obtain ⟨rfl,_,_⟩:=t2
  exact t3
 refine ⟨s1,c,el,bW,s2,?_,key⟩
 have:=key (l.length-1) (by omega)
 rw [List.getElem?_eq_getElem (by omega)] at this
 have aL:=(Array.getElem?_eq_some_iff.1 this).1
 omega
theorem Tc {E:Env} {h:af} (s:a' ⟨W,fun _=>none⟩ E h W) {a:Addr} {cap:Nat} {l:List Value} (bb:0<l.length) (aI:∀i,i<l.length→W.cell? (a.add i)=l[i]?) {us:List V} (aJ:bc E us l):
 ∃av aa b,E.le av∧Ext h aa∧a' ⟨W,fun _=>none⟩ av aa W∧Old aa b∧a.spot=none∧av b=some ⟨a.block,a.off,cap⟩∧Rd aa b us:=by
 obtain ⟨s1,c,el,bW,s2,jV,sO⟩:=ajf bb aI
 have O':us.length=l.length:=(bc.length aJ).symm
 refine ⟨p9 E h ⟨a.block,a.off,cap⟩,h.new (.ro us),al h.next,Kx s _,(Ext.refl h).new _,ajI s s2 (by omega) fun i v y bs a_=>?_,QP,s1,Tb _ _ _,.inl (ku _)⟩
 have aC:i<l.length:=by
  have:=(List.getElem?_eq_some_iff.1 bs).1
  omega
 rw [sO i aC] at a_
 obtain ⟨ve,aK,aS⟩:=bc.get aJ i v bs
 rw [a_] at aK
 simp only [Option.some.injEq] at aK
 rw [aK]
 exact aS
theorem NP {α:Type} (size:Nat):∀(pieces:List (List α)) (i j:Nat),(∀l ∈ pieces,l.length=size)→i<pieces.length→j<size→pieces.flatten[i * size+j]? =(pieces[i]?).bind (·[j]?)
 | [],i,j,_,aC,_=>by simp at aC
 | l::ls,i,j,ah,aC,bK=>by
   have ai:l.length=size:=ah l (by simp)
   cases i with
   | zero=>
     rw [Nat.zero_mul,Nat.zero_add,List.flatten_cons,List.getElem?_append_left (by omega)]
     simp
   | succ i=>
     rw [List.flatten_cons,List.getElem?_append_right (by rw [ai,Nat.add_mul];omega)]
     rw [show (i+1) * size+j-l.length=i * size+j from by rw [ai,Nat.add_mul];omega]
     rw [NP size ls i j (fun l ai=>ah l (by simp [ai])) (by simpa using aC) bK]
     simp
theorem NR {α:Type} (size:Nat):∀(pieces:List (List α)),(∀l ∈ pieces,l.length=size)→pieces.flatten.length=pieces.length * size
 | [],_=>by simp
 | l::ls,ah=>by
   rw [List.flatten_cons,List.length_append,NR size ls (fun l ai=>ah l (by simp [ai])),ah l (by simp),List.length_cons,Nat.add_mul]
   omega
theorem Q' {α:Type} (R:Nat→α→Prop):∀(len:Nat),(∀i,i<len→∃l,R i l)→∃bg:List α,bg.length=len∧∀i l,bg[i]? =some l→R i l
 | 0,_=>⟨[],rfl,fun i l q=>by simp at q⟩
 | m+1,h=>by
   obtain ⟨bg,an,az⟩:=Q' R m (fun i aC=>h i (by omega))
   obtain ⟨l,ab⟩:=h m (by omega)
   refine ⟨bg++[l],by simp [an],fun i cR gm=>?_⟩
   by_cases aC:i<bg.length
   · rw [List.getElem?_append_left aC] at gm
     exact az i cR gm
   · rw [List.getElem?_append_right (by omega)] at gm
     have cS:i-bg.length=0:=by
      by_cases q:i-bg.length=0
      · exact q
      · rw [List.getElem?_eq_none (by simp;omega)] at gm
        cases gm
     rw [cS] at gm
     simp at gm
     subst gm
     obtain rfl:i=m:=by omega
     exact ab
theorem CS (dP:u9 P=true) (ei:laidOutB P=true):∀(n:Nat) (t:TypeId) (cs:List Value) (x:DataW H × List MemPlace),t<P.types.size→DataW.trod enc P W base sp held n t cs=some x→Lays P W n (fx x.1) t cs
 | 0,t,cs,x,_,h=>by simp [DataW.trod] at h
 | n+1,t,cs,x,aL,h=>by
   have Bq:∀(cs:List Value),(∀aa ad,ad.length=cs.length→dB P aa (n+1) (fx x.1) t ad)→Lays P W (n+1) (fx x.1) t cs:=by
    intro cs H E h s
    refine ⟨E,h,cs.map fun _=>.bad,fun _ _ q=>q,Ext.refl h,s,?_,by simp,H _ _ (by simp)⟩
    clear H
    induction cs with
    | nil=>rfl
    | cons c cs bk=>exact ⟨c,cs,rfl,by simp [Rel],bk⟩
   cases hu:P.underlying t with
   | none=>
     refine Bq cs fun aa ad _=>?_
     simp only [dB,hu]
   | some u=>
     cases u with
     | bool=>
       obtain ⟨b,rfl,_⟩:=DataW.trod_bool hu h
       intro E h s
       exact ⟨E,h,[.bool b],fun _ _ q=>q,Ext.refl h,s,⟨_,_,rfl,rfl,rfl⟩,rfl,by simp only [dB,hu];exact ⟨b,rfl⟩⟩
     | int k=>
       obtain ⟨i,rfl,_,hw⟩:=DataW.trod_int hu h
       intro E h s
       exact ⟨E,h,[.int k i],fun _ _ q=>q,Ext.refl h,s,⟨_,_,rfl,rfl,rfl⟩,rfl,by simp only [dB,hu];exact ⟨i,rfl,hw⟩⟩
     | string=>
       obtain ⟨b,rfl,rfl,_⟩:=DataW.trod_string hu h
       intro E h s
       exact ⟨E,h,[.str b.data.toList],fun _ _ q=>q,Ext.refl h,s,⟨_,_,rfl,rfl,rfl⟩,rfl,by simp only [dB,hu,fx];exact ⟨_,rfl,Nat.le_refl _⟩⟩
     | struct cd=>
       obtain ⟨xs,iA,aU,rfl,ai,w1,ay⟩:=DataW.trod_struct hu h
       obtain rfl:n=iA:=by omega
       have adH:xK P cd.toList 0=some (P.cellsOf t):=by
        unfold u9 at dP
        rw [List.all_eq_true] at dP
        have:=dP t (List.mem_range.2 aL)
        rw [hu] at this
        exact of_decide_eq_true this
       have np:∀(i:Nat) (f:Field) (k:Nat),cd.toList[i]? =some f→(xs.map fun x=>fx x.1)[i]? =some k→Lays P W n k f.type ((cs.drop f.offset).take (P.cellsOf f.type)):=by
        intro i f k aC aE
        have nn:f ∈ cd.toList:=List.mem_of_getElem? aC
        have ua:cd[i]? =some f:=by simpa using aC
        have:=ay i f ua
        have OG:i<xs.length:=by
         rw [w1]
         exact (Array.getElem?_eq_some_iff.1 ua).1
        rw [List.getElem?_eq_getElem OG] at this
        rw [List.getElem?_map,List.getElem?_eq_getElem OG,Option.map_some,Option.some.injEq] at aE
        subst aE
        exact CS dP ei n _ _ _ ((kid_struct ei aL hu).1 f nn) this
       intro E h s
       obtain ⟨_,g⟩:=P1 n cd.toList (xs.map fun x=>fx x.1) 0 _ cs adH ai (by simp [w1]) np
       obtain ⟨av,aa,ad,bH,a2,a3,a4,a5,iL⟩:=g E h s
       refine ⟨av,aa,ad,bH,a2,a3,by simpa using a4,by rw [a5,ai];omega,?_⟩
       simp only [dB,hu]
       refine ⟨by omega,xs.map fun x=>fx x.1,by simp [w1],?_,fun i f k nn aE=>⟨?_,by simpa using (iL i f k nn aE).2⟩⟩
       · simp only [fx,Fa,List.map_map]
         exact Nat.le_refl _
       · rw [List.getElem?_map,Option.map_eq_some_iff] at aE
         obtain ⟨y,_,rfl⟩:=aE
         exact qC _
     | slice e=>
       rcases DataW.trod_slice hu h with ⟨rfl,rfl⟩ | ⟨a,len,cap,elems,rest,iA,aU,rfl,rfl,ag,qR,_,Ov,acI,_,_⟩
       · intro E h s
         exact ⟨E,h,[.b6],fun _ _ q=>q,Ext.refl h,s,⟨_,_,rfl,rfl,rfl⟩,rfl,by simp only [dB,hu];exact ⟨qC _,.inl trivial⟩⟩
       · obtain rfl:n=iA:=by omega
         by_cases aQ:P.cellsOf e=0
         · refine Bq _ fun aa ad _=>?_
           simp only [dB,hu]
           exact ⟨qC _,.inr (.inr (.inl aQ))⟩
         by_cases k6:len=0
         · subst k6
           intro E h s
           refine ⟨E,h,[.hA .z 0 0 0],fun _ _ q=>q,Ext.refl h,s,⟨_,_,rfl,?_,rfl⟩,rfl,by simp only [dB,hu];exact ⟨qC _,.inr (.inl ⟨_,_,_,_,rfl⟩)⟩⟩
           simp only [Rel]
           exact ⟨_,_,rfl⟩
         · -- its elements
           have iu:∀i,i<len→∃l,W.cells? base (a.add (i * P.cellsOf e)) (P.cellsOf e)=some l∧∀k:Nat,(elems.map fun x=>fx x.1)[i]? =some k→Lays P W n k e l:=by
            intro i aC
            have:=acI i aC
            rw [List.getElem?_eq_getElem (by omega)] at this
            rw [Option.bind_eq_some_iff] at this
            obtain ⟨l,ab,ae⟩:=this
            refine ⟨l,ab,fun k aE=>?_⟩
            rw [List.getElem?_map,List.getElem?_eq_getElem (by omega),Option.map_some,Option.some.injEq] at aE
            subst aE
            exact CS dP ei n _ _ _ (kid_slice ei aL hu) ae
           obtain ⟨pieces,ht,hv⟩:∃pieces:List (List Value),pieces.length=len∧∀i (l:List Value),pieces[i]? =some l→W.cells? base (a.add (i * P.cellsOf e)) (P.cellsOf e)=some l∧∀k:Nat,(elems.map fun x=>fx x.1)[i]? =some k→Lays P W n k e l:=by
            exact Q' (fun i l=>W.cells? base (a.add (i * P.cellsOf e)) (P.cellsOf e)=some l∧∀k:Nat,(elems.map fun x=>fx x.1)[i]? =some k→Lays P W n k e l) len iu
           have hx:∀(i:Nat) (l:List Value) (k:Nat),pieces[i]? =some l→(elems.map fun x=>fx x.1)[i]? =some k→l.length=P.cellsOf e∧Lays P W n k e l:=by
            intro i l k aC aE
            obtain ⟨an,az⟩:=hv i l aC
            exact ⟨(BA an).1,az k aE⟩
           have OV:∀l ∈ pieces,l.length=P.cellsOf e:=by
            intro l ai
            obtain ⟨i,aC⟩:=List.getElem?_of_mem ai
            exact (BA (hv i l aC).1).1
           intro E h s
           obtain ⟨fl,ab,us,bH,a2,a3,a4,a5,iL⟩:=P2 n (P.cellsOf e) e pieces (elems.map fun x=>fx x.1) (by simp [Ov,ht]) hx E h s
           have np:=NR (P.cellsOf e) pieces OV
           have zm:0<len * P.cellsOf e:=Nat.mul_pos (by omega) (by omega)
           have tS:∀i,i<pieces.flatten.length→W.cell? (a.add i)=pieces.flatten[i]? :=by
            intro q aA
            rw [np] at aA
            have OO:q % P.cellsOf e<P.cellsOf e:=Nat.mod_lt _ (by omega)
            have hdiv:q / P.cellsOf e<pieces.length:=Nat.div_lt_of_lt_mul (by rw [Nat.mul_comm];exact aA)
            have wP:q / P.cellsOf e * P.cellsOf e+q % P.cellsOf e=q:=by rw [Nat.mul_comm];exact Nat.div_add_mod q _
            rw [←wP,NP (P.cellsOf e) pieces _ _ OV hdiv OO,List.getElem?_eq_getElem hdiv]
            obtain ⟨an,_⟩:=hv _ _ (List.getElem?_eq_getElem hdiv)
            have:=(BA an).2 _ OO
            rw [Option.bind_some,←this]
            congr 1
            unfold Addr.add
            by_cases cF:q / P.cellsOf e * P.cellsOf e=0
            · rw [cF];simp
            · by_cases z2:q % P.cellsOf e=0
              · rw [z2];simp
              · have z3:¬(q / P.cellsOf e * P.cellsOf e+q % P.cellsOf e=0):=by omega
                rw [if_neg cF,if_neg z2,if_neg z3]
                simp [Nat.add_assoc]
           obtain ⟨cn,ae,b,cC,ck,hF,kq,kX,rW,E6⟩:=Tc a3 (cap:=cap) (by rw [np,ht];exact zm) tS a4
           refine ⟨cn,ae,[.slice b 0 len cap],bH.trans cC,a2.trans ck,hF,⟨_,_,rfl,?_,rfl⟩,rfl,?_⟩
           · simp only [Rel]
             refine ⟨_,rW,qR,?_⟩
             obtain ⟨E8,ahF,st⟩:=a
             simp only at kX
             subst kX
             rfl
           · simp only [dB,hu]
             refine ⟨qC _,.inr (.inr (.inr ⟨b,len,cap,rfl,by omega,qR,kq,us,E6,by rw [a5,ht],elems.map fun x=>fx x.1,by simp [Ov],?_,fun i k aE=>⟨?_,dB.ext ck _ _ _ _ (iL i k aE)⟩⟩))⟩
             · simp only [fx,Fa,List.map_map]
               exact Nat.add_le_add_right (Nat.le_add_right _ _) 1
             · rw [List.getElem?_map,Option.map_eq_some_iff] at aE
               obtain ⟨y,_,rfl⟩:=aE
               exact qC _
     | pointer e=>
       rcases DataW.trod_pointer hu h with ⟨rfl,rfl⟩ | ⟨a,kZ,y,iA,aU,rfl,rfl,aI,a_⟩
       · intro E h s
         exact ⟨E,h,[.mG],fun _ _ q=>q,Ext.refl h,s,⟨_,_,rfl,rfl,rfl⟩,rfl,by simp only [dB,hu];exact ⟨qC _,.inl trivial⟩⟩
       · obtain rfl:n=iA:=by omega
         by_cases aQ:P.cellsOf e=0
         · refine Bq _ fun aa ad _=>?_
           simp only [dB,hu]
           exact ⟨qC _,.inr (.inl aQ)⟩
         · intro E h s
           obtain ⟨an,az⟩:=BA aI
           obtain ⟨fl,ab,us,bH,a2,a3,a4,a5,iL⟩:=CS dP ei n _ _ _ (kid_pointer ei aL hu) a_ E h s
           obtain ⟨cn,ae,b,cC,ck,hF,kq,kX,rW,E6⟩:=Tc a3 (cap:=0) (by omega) (fun i aC=>az i (by omega)) a4
           refine ⟨cn,ae,[.ptr b 0],bH.trans cC,a2.trans ck,hF,⟨_,_,rfl,?_,rfl⟩,rfl,?_⟩
           · simp only [Rel]
             refine ⟨_,rW,?_⟩
             obtain ⟨E8,ahF,st⟩:=a
             simp only at kX
             subst kX
             rfl
           · simp only [dB,hu]
             exact ⟨qC _,.inr (.inr ⟨b,rfl,kq,us,E6,by omega,_,Nat.le_refl _,dB.ext ck _ _ _ _ iL⟩)⟩
     | map k e=>
       have gG:cs.length=1:=by
        unfold DataW.trod at h
        rw [hu] at h
        split at h<;>simp_all
       intro E h s
       refine ⟨E,h,[.bad],fun _ _ q=>q,Ext.refl h,s,?_,by simp [gG],by simp only [dB,hu];exact .inr trivial⟩
       match cs,gG with
       | [c],_=>exact ⟨c,[],rfl,by simp [Rel],rfl⟩
     | interface ms=>
       have gG:cs.length=1:=by
        unfold DataW.trod at h
        rw [hu] at h
        split at h<;>simp_all
       intro E h s
       refine ⟨E,h,[.bad],fun _ _ q=>q,Ext.refl h,s,?_,by simp [gG],by simp only [dB,hu];exact .inr trivial⟩
       match cs,gG with
       | [c],_=>exact ⟨c,[],rfl,by simp [Rel],rfl⟩
     | _=>
       refine Bq cs fun aa ad _=>?_
       simp only [dB,hu]
def o' (P:Program) (h:af) (n m:Nat) (t:TypeId) (v:V):Prop:=
 match P.underlying t with
 | some (.struct _) | some (.array _ _)=>∃ad,v=.agg ad∧dB P h n m t ad
 | _=>dB P h n m t [v]
theorem o'.ext {h aa:af} (e:Ext h aa) {n m:Nat} {t:TypeId} {v:V} (H:o' P h n m t v):o' P aa n m t v:=by
 unfold o' at H ⊢
 split at H
 · obtain ⟨ad,an,az⟩:=H
   exact ⟨ad,an,dB.ext e _ _ _ _ az⟩
 · obtain ⟨ad,an,az⟩:=H
   exact ⟨ad,an,dB.ext e _ _ _ _ az⟩
 · exact dB.ext e _ _ _ _ H
theorem agz (dP:u9 P=true) (ei:laidOutB P=true) {r:Reach} {lL:Nat} {t:TypeId} {v:Value} {d:DataW H} {p:List MemPlace} (aL:t<P.types.size) (bF:Value.okWide P W r lL t v) (aZ:DataW.Trod enc P W base sp held t v d p) {E:Env} {h:af} (s:a' ⟨W,fun _=>none⟩ E h W):
 ∃n av aa x,E.le av∧Ext h aa∧a' ⟨W,fun _=>none⟩ av aa W∧Rel av x v∧o' P aa n (fx d) t x:=by
 obtain ⟨fuel,ay⟩:=aZ
 obtain ⟨av,aa,ad,bH,a2,a3,a4,a5,iL⟩:=CS dP ei _ _ _ _ aL ay E h s
 have agg:(∃cs,v=.agg cs)→∃x,Rel av x v∧x=.agg ad:=by
  rintro ⟨cs,rfl⟩
  exact ⟨.agg ad,by simp only [Rel];exact ⟨cs,rfl,a4⟩,rfl⟩
 have one:v.cells=#[v]→∃x,Rel av x v∧ad=[x]:=by
  intro aI
  rw [aI] at a4 a5
  match ad,a4,a5 with
  | [x],⟨y,cJ,aK,aS,bn⟩,_=>
    simp only [List.cons.injEq] at aK
    exact ⟨x,aK.1 ▸ aS,rfl⟩
 refine ⟨fuel,av,aa,?_⟩
 unfold Value.okWide at bF
 cases hu:P.underlying t with
 | none=>
   rw [hu] at bF
   simp only [Cell.okWide,Cell.ok,hu] at bF
 | some u=>
   rw [hu] at bF
   unfold o'
   rw [hu]
   cases u<;>simp only at bF ⊢<;>first
    | (obtain ⟨cs,bs,_⟩:=bF
       obtain ⟨x,an,az⟩:=agg ⟨cs,bs⟩
       exact ⟨x,bH,a2,a3,an,ad,az,iL⟩)
    | (have aI:v.cells=#[v]:=by
        cases v<;>first
         | rfl
         | (simp only [Cell.okWide,Cell.ok,hu] at bF)
       obtain ⟨x,an,az⟩:=one aI
       exact ⟨x,bH,a2,a3,an,az ▸ iL⟩)
def mn (P:Program) (h:af):Nat→List TypeId→List V→Prop
 | _,[],[]=>True
 | m,t::bO,v::ad=>∃k bt,k+bt≤m∧(∃n,o' P h n k t v)∧mn P h bt bO ad
 | _,_,_=>False
theorem mn.mono {h:af}:∀{m cj:Nat} {bO:List TypeId} {ad:List V},m≤cj→mn P h m bO ad→mn P h cj bO ad
 | _,_,[],[],_,H=>by unfold mn;trivial
 | _,_,[],_::_,_,H=>H.elim
 | _,_,_::_,[],_,H=>H.elim
 | _,_,_::_,_::_,hm,⟨k,bt,aE,H,jt⟩=>⟨k,bt,Nat.le_trans aE hm,H,jt⟩
theorem P0 (dP:u9 P=true) (ei:laidOutB P=true) {r:Reach} {lL:Nat}:∀{bO:List TypeId} {ad:List Value} {ds:List (DataW H)} {p:List MemPlace},(∀t ∈ bO,t<P.types.size)→(∀(j:Nat) t v,bO[j]? =some t→ad[j]? =some v→Value.okWide P W r lL t v)→
 DataW.TrodAll enc P W base sp held bO ad ds p→∀{E:Env} {h:af},a' ⟨W,fun _=>none⟩ E h W→∃av aa xs,E.le av∧Ext h aa∧a' ⟨W,fun _=>none⟩ av aa W∧bc av xs ad∧mn P aa (kY ds) bO xs
 | [],[],ds,p,_,_,_,E,h,s=>⟨E,h,[],fun _ _ q=>q,Ext.refl h,s,rfl,by unfold mn;trivial⟩
 | [],_::_,ds,p,_,_,aZ,E,h,s=>by cases ds<;>exact aZ.elim
 | _::_,[],ds,p,_,_,aZ,E,h,s=>by cases ds<;>exact aZ.elim
 | _::_,_::_,[],p,_,_,aZ,E,h,s=>aZ.elim
 | t::bO,v::ad,d::ds,p,aF,bs,⟨bS,b0,ab,ae,_⟩,E,h,s=>by
   obtain ⟨n,fl,g1,x,bH,a2,a3,a4,a5⟩:=agz dP ei (aF t (by simp)) (bs 0 t v rfl rfl) ab s
   obtain ⟨cn,g2,xs,cC,ck,hF,kq,kX⟩:=P0 dP ei (fun t q=>aF t (by simp [q])) (fun j t v an az=>bs (j+1) t v (by simpa using an) (by simpa using az)) ae a3
   exact ⟨cn,g2,x::xs,bH.trans cC,a2.trans ck,hF,⟨_,_,rfl,Rel.mono cC _ _ a4,kq⟩,fx d,kY ds,by simp only [kY];exact Nat.le_refl _,⟨n,a5.ext ck⟩,kX⟩
theorem Zr (dP:u9 P=true) (ei:laidOutB P=true) {r:Reach} {lL:Nat} {f:FuncId} {bO:List TypeId} {ad:List Value} {ds:List (DataW H)} {p:List MemPlace} (fa:∀t ∈ bO,t<P.types.size) (bs:∀(j:Nat) t v,bO[j]? =some t→ad[j]? =some v→Value.okWide P W r lL t v)
 (aZ:DataW.TrodAll enc P W base sp held bO ad ds p) (wv:Lay.ok W) (bG:ez P) (ag:∃fn,P.funcs[f]? =some fn∧fn.body.isSome=true) (aI:∀(h:af) (xs:List V),mn P h (kY ds) bO xs→bB P f xs h fun y _=>y=.bool true):
 Calls P f ad.toArray W fun e ao=>e=.returned (.bool true)∧Below W.heap.size W ao:=by
 obtain ⟨E,h,xs,_,_,a3,a4,a5⟩:=P0 dP ei fa bs aZ (Sr W wv)
 obtain ⟨y,aa,oj,rfl⟩:=aI h xs a5
 refine (oj.calls bG ag _ E W ad a4 a3).mono fun e ao q=>?_
 obtain ⟨av,x,rfl,_,az,aN⟩:=q
 simp only [Rel] at az
 subst az
 exact ⟨rfl,aN.frame⟩
end
end Go.Proofs.YthemdhlheglhoaaGreatDoor.aX
namespace Go.Proofs.YthemdhlheglhoaaGreatDoor.aX
variable [Lay]
open Go Go.RowKit
section
variable {P:Program} {h:af} {n m:Nat} {t:TypeId}
theorem dB.pos {ad:List V} (H:dB P h n m t ad):∃k,n=k+1:=by
 cases n with
 | zero=>exact H.elim
 | succ m=>exact ⟨m,rfl⟩
theorem dB.int {ad:List V} {k:IntKind} (H:dB P h n m t ad) (hu:P.underlying t=some (.int k)):∃i,ad=[.int k i]∧(Lit.int k i).wf=true:=by
 obtain ⟨m,rfl⟩:=H.pos
 simpa only [dB,hu] using H
theorem dB.str {ad:List V} (H:dB P h n m t ad) (hu:P.underlying t=some .string):∃s:List UInt8,ad=[.str s]∧s.length+1≤m:=by
 obtain ⟨_,rfl⟩:=H.pos
 simpa only [dB,hu] using H
theorem dB.struct {ad:List V} {cd:Array Field} (H:dB P h n m t ad) (hu:P.underlying t=some (.struct cd)):∃iA,n=iA+1∧ad.length=P.cellsOf t∧∃ms:List Nat,ms.length=cd.toList.length∧ms.sum+1≤m∧
 ∀(i:Nat) (f:Field) (k:Nat),cd.toList[i]? =some f→ms[i]? =some k→1≤k∧dB P h iA k f.type ((ad.drop f.offset).take (P.cellsOf f.type)):=by
 obtain ⟨iA,rfl⟩:=H.pos
 refine ⟨iA,rfl,?_⟩
 simpa only [dB,hu] using H
def Aw (v:V):Prop:=∀b off l c,v=.slice b off l c→l≤c
def Lr (h:af) (size:Nat) (v:V) (len m:Nat) (Q:Nat→List V→Prop):Prop:=
 v.one=true∧v.cells=[v]∧v.fK=true∧lp v=some (.int .i64 len)∧Aw v∧∃(us:List V) (ms:List Nat),hn h size v len us∧ms.length=len∧ms.sum+1≤m∧∀(i k:Nat),ms[i]? =some k→1≤k∧Q k ((us.drop (i * size)).take size)
theorem dB.slice {ad:List V} {e:TypeId} (H:dB P h n m t ad) (hu:P.underlying t=some (.slice e)) (aQ:P.cellsOf e≠0):∃iA v len,n=iA+1∧ad=[v]∧Lr h (P.cellsOf e) v len m (fun k=>dB P h iA k e):=by
 obtain ⟨iA,rfl⟩:=H.pos
 simp only [dB,hu] at H
 obtain ⟨bb,H⟩:=H
 rcases H with rfl | ⟨b,i,j,k,rfl⟩ | q | ⟨b,len,cap,rfl,ab,ae,ba,us,bz,bZ,ms,fu,gI,kH⟩
 · exact ⟨iA,_,0,rfl,rfl,rfl,rfl,rfl,rfl,(fun _ _ _ _ e=>by cases e),[],[],⟨by simp,rfl⟩,rfl,by simpa using bb,fun i k aC=>by simp at aC⟩
 · exact ⟨iA,_,0,rfl,rfl,rfl,rfl,rfl,rfl,(fun _ _ _ _ e=>by cases e),[],[],⟨by simp,rfl⟩,rfl,by simpa using bb,fun i k aC=>by simp at aC⟩
 · exact absurd q aQ
 · exact ⟨iA,_,len,rfl,rfl,rfl,rfl,rfl,rfl,(fun _ _ _ _ e=>by cases e;exact ae),us,ms,⟨bZ,rfl,ba,us,bz,by omega,by simp⟩,fu,gI,kH⟩
end
end Go.Proofs.YthemdhlheglhoaaGreatDoor.aX
namespace Go.Proofs.YthemdhlheglhoaaGreatDoor.aX
variable [Lay]
open Go Go.RowKit Go.ChangeShapes Go.WideShapes
section
variable {H:Type} {enc:TypeId × Value→H} {P:Program}
theorem L6 (ei:laidOutB P=true) {W yq:World} (ag:Below W.heap.size W yq):∀{bO:List TypeId} {ad:List Value} {ds:List (DataW H)} {bg:List MemPlace},(bO.all fun t=>P.readableRec t&&decide (t<P.types.size))=true→
 DataW.TrodAll enc P W 0 (fun _=>true) true bO ad ds bg→DataW.TrodAll enc P yq 0 (fun b=>decide (b<W.heap.size)) true bO ad ds bg
 | [],[],[],_,_,h=>h
 | [],_::_,_,_,_,h=>by rename_i ds _;cases ds<;>exact h.elim
 | [],[],_::_,_,_,h=>h.elim
 | _::_,[],_,_,_,h=>by rename_i ds _;cases ds<;>exact h.elim
 | _::_,_::_,[],_,_,h=>h.elim
 | t::bO,v::ad,d::ds,bg,aJ,h=>by
   have aL:=h.lt
   obtain ⟨p,q,ab,ae,rfl⟩:=h
   simp only [List.all_cons,Bool.and_eq_true,decide_eq_true_eq] at aJ
   exact ⟨p,q,Below.trod ei aJ.1.1 aJ.1.2 ab ag (fun x aq=>aL x (by simp [aq])),L6 ei ag aJ.2 ae,rfl⟩
theorem SY {W:World} {base:Nat} {sp:Nat→Bool} {held:Bool}:∀{bO:List TypeId} {ad:List Value} {ds:List (DataW H)} {bg:List MemPlace},DataW.TrodAll enc P W base sp held bO ad ds bg→ds.length=bO.length
 | [],[],[],_,_=>rfl
 | [],_::_,ds,_,h=>by cases ds<;>exact h.elim
 | [],[],_::_,_,h=>h.elim
 | _::_,[],ds,_,h=>by cases ds<;>exact h.elim
 | _::_,_::_,[],_,h=>h.elim
 | t::bO,v::ad,d::ds,bg,h=>by
   obtain ⟨p,q,ab,ae,rfl⟩:=h
   simp [SY ae]
theorem agm (dP:u9 P=true) (ei:laidOutB P=true) {f:FuncId} {fn:Func} {s:ChangeSpec} {Kp:TypeId} (fa:(fn.params.toList.all fun t=>P.readableRec t&&decide (t<P.types.size))=true) (Pb:s.vars=[]) (adw:fn.resultTypes=#[Kp]) (adM:P.underlying Kp=some .bool)
 (Ij:∀ds:List (DataW H),ds.length=fn.params.size→s.fn H (ds++[])={results:=[.lit (.bool true)],args:=ds})
 {B:Nat} (aI:∀(h:af) (xs:List V),mn P h B fn.params.toList xs→bB P f xs h fun y _=>y=.bool true)
 {W:World} {base:Nat} {args:Array Value} {ds gs:List (DataW H)} {before:List MemPlace} (aE:kY (ds++gs)≤B) (j':Lay.ok W) (bG:ez P) (ag:∃fn,P.funcs[f]? =some fn∧fn.body.isSome=true)
 (Ip:∀(j:Nat) t v,fn.params[j]? =some t→args[j]? =some v→Value.okWide P W .any base t v) (wv:DataW.Whole enc P fn.params.toList s.vars false W args.toList ds gs before):
 Calls P f args W fun e yq=>∃v,e=.returned v∧s.post enc P fn false true false false W args v yq:=by
 have ab2:=wv
 obtain ⟨p,q,lR,Of,rfl,pF,lY⟩:=wv
 rw [Pb] at Of
 obtain ⟨rfl,rfl⟩:=trodVars_none Of
 have hlen:ds.length=fn.params.size:=by rw [SY lR];simp
 have hw:=Zr dP ei (lL:=base) (r:=.any) (fun t aF=>by
  have:=List.all_eq_true.1 fa t aF
  simp only [Bool.and_eq_true,decide_eq_true_eq] at this
  exact this.2) (fun j t v ab ae=>Ip j t v (by simpa using ab) (by simpa using ae)) lR j' bG ag (fun h xs q=>aI h xs (q.mono (by simpa using aE)))
 simp only [Array.toArray_toList] at hw
 refine hw.mono fun e yq ⟨he,L5⟩=>?_
 subst he
 refine ⟨_,rfl,ds,[],p++[],[],p,[],ab2,?_,?_,?_,L5.frame _,fun h=>by cases h⟩
 · rw [Ij ds hlen,adw]
   exact trodAll_mk1 (shut_bool adM _)
 · rw [Ij ds hlen]
   exact L6 ei L5 fa lR
 · rw [Ij ds hlen,Pb]
   rfl
end
end Go.Proofs.YthemdhlheglhoaaGreatDoor.aX
namespace Go.Proofs.YthemdhlheglhoaaGreatDoor.aX
variable [Lay]
open Go Go.RowKit
theorem ajD {P:Program} {h:af} {B:Nat} {xs:List V} (aQ:mn P h B [] xs):xs=[]:=by
 match xs,aQ with
 | [],_=>rfl
theorem Sp {P:Program} {h:af} {B:Nat} {t:TypeId} {bO:List TypeId} {xs:List V} (aQ:mn P h B (t::bO) xs):∃a Bi k bt n,xs=a::Bi∧k+bt≤B∧o' P h n k t a∧mn P h bt bO Bi:=by
 match xs,aQ with
 | a::Bi,⟨k,bt,aE,⟨n,bb⟩,ab⟩=>exact ⟨a,Bi,k,bt,n,rfl,aE,bb,ab⟩
section
variable {P:Program} {h:af} {n m:Nat} {t:TypeId} {v:V}
theorem Sq {cd:Array Field} (aQ:o' P h n m t v) (hu:P.underlying t=some (.struct cd)):∃ad,v=.agg ad∧dB P h n m t ad:=by
 unfold o' at aQ
 rw [hu] at aQ
 exact aQ
end
end Go.Proofs.YthemdhlheglhoaaGreatDoor.aX
namespace Go.Proofs.YthemdhlheglhoaaGreatDoor.aX
variable [Lay]
open Go Go.RowKit
set_option linter.defProp false
end Go.Proofs.YthemdhlheglhoaaGreatDoor.aX
namespace Go.Proofs.YthemdhlheglhoaaGreatDoor.aX
variable [Lay]
open Go Go.RowKit
theorem ZU {P:Program} {aM:List g_} {r:aR} {h:af} {Q:de→aR→af→Prop} {a b:bx}:vQ P (.bool true) a b aM r h Q=bp P (.c a::aM) .normal r h Q:=by
 rw [MQ];simp
theorem ZT {P:Program} {aM:List g_} {r:aR} {h:af} {Q:de→aR→af→Prop} {a b:bx}:vQ P (.bool false) a b aM r h Q=bp P (.c b::aM) .normal r h Q:=by
 rw [MQ];simp
theorem L7 (a b:List UInt8):n2 a b=decide (a=b):=by
 rw [tw,Bool.eq_iff_iff]
 simp
theorem E9 (k:IntKind) (b:Int) (d y:Nat):bound (some (.int k b)) d y=if 0≤b∧b≤(y:Int) then some b.toNat else none:=by
 simp only [bound,V.dZ,pW]
 by_cases ab:0≤b<;>by_cases ae:b≤(y:Int)<;>simp [ab,ae]
theorem ajL (s:List UInt8) (k:IntKind) (b:Int):kQ (.str s) none (some (.int k b)) none=if 0≤b∧b≤(s.length:Int) then some (.str (s.take b.toNat)) else none:=by
 simp only [kQ,E9]
 by_cases h:0≤b∧b≤(s.length:Int)
 · simp only [h,and_self,if_true,bound,List.drop_zero,Nat.sub_zero]
 · simp only [h,if_false]
theorem ajM (s:List UInt8) (k:IntKind) (a:Int):kQ (.str s) (some (.int k a)) none none=if 0≤a∧a≤(s.length:Int) then some (.str (s.drop a.toNat)) else none:=by
 simp only [kQ,Ma,E9]
 by_cases h:0≤a∧a≤(s.length:Int)
 · simp only [h,and_self,if_true]
   rw [List.take_of_length_le (by rw [List.length_drop];omega)]
 · simp only [h,if_false]
theorem St (s:List UInt8) (k bt:IntKind) (a b:Int):kQ (.str s) (some (.int k a)) (some (.int bt b)) none=if 0≤a∧a≤b∧b≤(s.length:Int) then some (.str ((s.drop a.toNat).take (b.toNat-a.toNat))) else none:=by
 simp only [kQ,E9]
 by_cases h:0≤b∧b≤(s.length:Int)
 · simp only [h,and_self,if_true]
   by_cases ae:0≤a∧a≤b
   · have:0≤a∧a≤((b.toNat:Nat):Int):=by omega
     simp only [this,and_self,if_true,ae,h]
   · have aG:¬(0≤a∧a≤((b.toNat:Nat):Int)):=by omega
     have ba:¬(0≤a∧a≤b∧b≤(s.length:Int)):=by omega
     have cz:¬(0≤a∧a≤b∧True):=fun q=>ae ⟨q.1,q.2.1⟩
     rw [if_neg cz,if_neg aG]
 · have ba:¬(0≤a∧a≤b∧b≤(s.length:Int)):=by omega
   simp only [h,ba,if_false]
theorem ajK (s:List UInt8):kQ (.str s) none none none=some (.str s):=by
 simp only [kQ,Ma,List.drop_zero,Nat.sub_zero,List.take_length]
section
variable {P:Program}
theorem aju (a b:List UInt8):(dV.str .eql).run P (.str a) (.str b)=some (.bool (decide (a=b))):=by simp only [dV.run,rj,p6,L7]
theorem ajt (a b:List UInt8):(dV.str .add).run P (.str a) (.str b)=if a.length+b.length≤top then some (.str (a++b)) else none:=by
 simp only [dV.run,rj,DX]
 by_cases h:a.length+b.length≤top
 · rw [if_pos h,show Nat.ble (a.length+b.length) top=true from by rw [Nat.ble_eq];exact h]
   rfl
 · rw [if_neg h,show Nat.ble (a.length+b.length) top=false from by rw [←Bool.not_eq_true,Nat.ble_eq];exact h]
   rfl
theorem ajv (s:List UInt8) (k:IntKind) (i:Int):q4.run (.str s) (.int k i)=if 0≤i∧i < (s.length:Int) then some (.int .u8 (((s[i.toNat]?).getD 0).toNat:Int)) else none:=by
 simp only [q4,V.dZ,pW]
 by_cases ab:0≤i
 · simp only [ab,decide_true,cond_true,true_and]
   by_cases ae:i < (s.length:Int)
   · rw [if_pos ae,List.getElem?_eq_getElem (by omega)]
     rfl
   · rw [if_neg ae,List.getElem?_eq_none (by omega)]
 · simp only [ab,decide_false,cond_false,false_and,if_false]
theorem ajw (a b:List UInt8):(dV.str .neq).run P (.str a) (.str b)=some (.bool (!decide (a=b))):=by simp only [dV.run,rj,p6,L7]
end
end Go.Proofs.YthemdhlheglhoaaGreatDoor.aX
namespace Go.Proofs.YthemdhlheglhoaaGreatDoor.aX
open Go Go.RowKit
set_option linter.defProp false
def akX:=
 And.intro @afl<|And.intro @aeA<|And.intro @aft<|And.intro @aeB<|And.intro @afq<|And.intro @afu<|And.intro @afr<|And.intro @aeS<|And.intro @aeK<|And.intro @aeH<|And.intro @aeI<|And.intro @afb<|And.intro @aeQ<|And.intro @afo<|And.intro @afh<|And.intro @af8<|And.intro @afp<|And.intro @agb<|And.intro @aeF<|And.intro @afG<|And.intro @ae5<|And.intro @afY<|And.intro @ae6<|And.intro @afZ<|And.intro @afm<|And.intro @af_<|And.intro @aez<|And.intro @afD<|And.intro @afz<|And.intro @agh<|And.intro @aeX<|And.intro @afS<|And.intro @ae2<|And.intro @afV<|And.intro @afw<|And.intro @age<|And.intro @afv<|And.intro @agd<|And.intro @aeU<|@afP
def akY:=
 And.intro @aeV<|And.intro @afQ<|And.intro @aeW<|And.intro @afR<|And.intro @ae0<|And.intro @afT<|And.intro @ae1<|And.intro @afU<|And.intro @ae4<|And.intro @afX<|And.intro @ae3<|And.intro @afW<|And.intro @afa<|And.intro @af4<|And.intro @aeT<|And.intro @afO<|And.intro @aff<|And.intro @af7<|And.intro @afi<|And.intro @af9<|And.intro @aeM<|And.intro @afL<|And.intro @ae9<|And.intro @af2<|And.intro @ae'<|And.intro @af3<|And.intro @ae7<|And.intro @af0<|And.intro @afk<|And.intro @af'<|And.intro @aeD<|And.intro @afE<|And.intro @aeE<|And.intro @afF<|And.intro @afx<|And.intro @agf<|And.intro @afe<|And.intro @af6<|And.intro @afA<|@agi
def akZ:=
 And.intro @afd<|And.intro @af5<|And.intro @afs<|And.intro @agc<|And.intro @afn<|And.intro @aga<|And.intro @aex<|And.intro @afC<|And.intro @aeJ<|And.intro @afJ<|And.intro @ae8<|And.intro @af1<|And.intro @aeL<|And.intro @afK<|And.intro @aeO<|And.intro @afN<|And.intro @aeN<|And.intro @afM<|And.intro @afH<|And.intro @afI<|And.intro @PL<|And.intro @aeG<|@aeP
def ak0:=
 And.intro @aj8<|And.intro @ajP<|And.intro @ZU<|And.intro @ZT<|And.intro @jy<|And.intro @ajd<|And.intro @VU<|And.intro @VT<|And.intro @ah8<|And.intro @aaY<|And.intro @aaX<|And.intro @VW<|And.intro @aaM<|And.intro @aaL<|And.intro @ain<|And.intro @aaT<|And.intro @ahL<|And.intro @ahK<|And.intro @agJ<|And.intro @agH<|And.intro @agK<|And.intro @agI<|And.intro @agL<|And.intro @Ix<|And.intro @Iw<|And.intro @Z8<|And.intro @aaO<|And.intro @aaN<|And.intro @akt<|And.intro @ajz<|And.intro @ajA<|And.intro @ahG<|And.intro @ahH<|And.intro @ah7<|And.intro @ah4<|And.intro @akP<|And.intro @akO<|And.intro @VL<|And.intro @VM<|@VN
def ak1:=
 And.intro @VO<|And.intro @VK<|And.intro @TQ<|And.intro @TS<|And.intro @TR<|And.intro @akq<|And.intro @aks<|And.intro @akr<|And.intro @ael<|And.intro @aen<|And.intro @aem<|And.intro @aew<|And.intro @afy<|And.intro @afg<|And.intro @aeR<|And.intro @afj<|And.intro @afc<|And.intro @ae_<|And.intro @aeZ<|And.intro @aeY<|And.intro @aey<|And.intro @aeC<|And.intro @akE<|And.intro @akD<|And.intro @agX<|And.intro @agZ<|And.intro @P4<|And.intro @P5<|And.intro @zR<|And.intro @P8<|And.intro @aj2<|And.intro @agn<|And.intro @ku<|And.intro @hI<|And.intro @c4<|And.intro @q_<|And.intro @eU<|And.intro @mF<|And.intro @ahj<|@Zx
def ak2:=
 And.intro @ahN<|And.intro @abu<|And.intro @ZB<|And.intro @QT<|And.intro @aby<|And.intro @ZK<|And.intro @QU<|And.intro @abH<|And.intro @ZG<|And.intro @ahV<|And.intro @abD<|And.intro @ZI<|And.intro @ahX<|And.intro @abF<|And.intro @ZJ<|And.intro @ahY<|And.intro @abG<|And.intro @Zz<|And.intro @ahP<|And.intro @abw<|And.intro @ZL<|And.intro @ahZ<|And.intro @abI<|And.intro @ZH<|And.intro @ahW<|And.intro @abE<|And.intro @ZF<|And.intro @ahU<|And.intro @abC<|And.intro @ZC<|And.intro @ahR<|And.intro @abz<|And.intro @Zy<|And.intro @ahO<|And.intro @abv<|And.intro @ZE<|And.intro @ahT<|And.intro @abB<|And.intro @ZA<|@ahQ
def ak3:=
 And.intro @abx<|And.intro @ZD<|And.intro @ahS<|And.intro @abA<|And.intro @Zw<|And.intro @abt<|And.intro @abJ<|And.intro @agC<|And.intro @agD<|And.intro @agB<|And.intro @beq_true<|And.intro @beq_false<|And.intro @Bool.not_true<|And.intro @Bool.not_false<|And.intro @Bool.true_and<|And.intro @Bool.and_true<|And.intro @Bool.false_and<|And.intro @Bool.and_false<|And.intro @Bool.not_not<|And.intro @V.bool.injEq<|And.intro @Nat.zero_add<|And.intro @Nat.add_zero<|And.intro @akl<|And.intro @akm<|And.intro @akk<|And.intro @Bool.true_eq_false<|And.intro @Bool.false_eq_true<|And.intro @akp<|And.intro @aiB<|And.intro @aiC<|And.intro @Vz<|And.intro @Vy<|And.intro @Vv<|And.intro @Vs<|And.intro @acw<|And.intro @acy<|And.intro @acx<|And.intro @Vt<|And.intro @Vu<|@Vw
def ak4:=
 And.intro @Vx<|And.intro @uT<|And.intro @ak'<|And.intro @p1<|And.intro @ak_<|And.intro @z_<|And.intro @ala<|And.intro @ahA<|And.intro @alb<|And.intro @QH<|And.intro @alc<|And.intro @ahB<|And.intro @ald<|And.intro @ahC<|And.intro @ale<|And.intro @ahD<|And.intro @alf<|And.intro @abn<|And.intro @abk<|And.intro @abm<|And.intro @abl<|And.intro @abo<|And.intro @Bool.or_false<|And.intro @Bool.false_or<|And.intro @Bool.or_true<|And.intro @Bool.true_or<|And.intro @ahq<|And.intro @ag'<|And.intro @ahb<|And.intro @ah5<|And.intro @ah6<|And.intro @U5<|And.intro @U_<|And.intro @Va<|And.intro @Vb<|And.intro @Vc<|And.intro @Vd<|And.intro @Ve<|And.intro @Vf<|@Vg
def ak5:=
 And.intro @U4<|And.intro @U6<|And.intro @U7<|And.intro @U8<|And.intro @U9<|And.intro @U'<|And.intro @ajL<|And.intro @ajM<|And.intro @St<|And.intro @ajK<|And.intro @aju<|And.intro @ajw<|And.intro @ajt<|@ajv
end Go.Proofs.YthemdhlheglhoaaGreatDoor.aX
namespace Go.Proofs.YthemdhlheglhoaaGreatDoor.aX
variable [Lay]
open Go Go.RowKit
theorem yx {B:Nat} {h:af} {size:Nat} {s:V} {n:Nat} {us cs:List V} (ca:1≤size) (H1:du B h size s n us) (c2:B≤h.next) (hlen:(n+1) * size≤top) (gG:cs.length=size) (aT:eS cs=true):
 ∃v aa,kW size s (.slice (al h.next) 0 1 1) (h.new (.a1 cs 0 false))=.val v aa∧du B aa size v (n+1) (us++cs)∧Mod s.aW h aa∧h.next+1≤aa.next∧∀b,v.aW b→s.aW b∨h.next<dG b:=by
 have aq:Ext h (h.new (.a1 cs 0 false)):=(Ext.refl h).new _
 have bs:hn (h.new (.a1 cs 0 false)) size (.slice (al h.next) 0 1 1) 1 cs:=by
  refine ⟨by rw [gG];omega,rfl,eI (by rw [eU];omega),cs,.inr ⟨0,false,by rw [ku]⟩,by omega,by simp⟩
 obtain ⟨v,aa,an,az,aN,bM⟩:=LS ca (H1.ext aq) bs (by rw [eU];omega) hlen aT
 refine ⟨v,aa,an,az,(aq.mod _).trans aN,by have:=aN.next;rw [eU] at this;exact this,fun b ag=>?_⟩
 rcases bM b ag with q | q
 · exact .inl q
 · exact .inr (by rw [eU] at q;omega)
theorem S2:∀l:List UInt8,mM (gE l)=some l
 | []=>rfl
 | c::l=>by
   have bk:=S2 l
   simp only [gE,mM,bk]
   simp
theorem vL:∀l:List UInt8,(gE l).length=l.length
 | []=>rfl
 | c::l=>by simp only [gE,List.length_cons,vL l]
theorem Md:∀l m:List UInt8,gE (l++m)=gE l++gE m
 | [],m=>rfl
 | c::l,m=>by simp only [gE,List.cons_append,Md l m]
theorem SG {h:af} {b:aP} {us:List V} {cy:Nat} {st:Bool} {off:Nat} {l:List UInt8} (aH:h.get b=.a1 us cy st) (ai:off+l.length≤us.length) (hu:(us.drop off).take l.length=gE l):sR b off l.length h=.val (.str l) h:=by
 unfold sR
 rw [aH]
 simp only [cb.nL,cb.a1]
 rw [show Nat.ble (off+l.length) us.length=true from by rw [Nat.ble_eq];exact ai]
 simp only [cond_true]
 rw [B9 us l.length off ai,hu,S2]
theorem GC {B:Nat} {h:af} {v:V} {n:Nat} {l:List UInt8} (H:du B h 1 v n (gE l)):pt.run v h=.val (.str l) h:=by
 have ab:=H.1
 rw [vL,Nat.mul_one] at ab
 have ae:=H.2
 cases v<;>simp only at ae<;>try (exact ae.elim)
 case b6=>
  subst ae
  rw [List.length_eq_zero_iff] at ab
  subst ab
  rfl
 case slice=>
  obtain ⟨an,az,aN,bM,dL,us,cy,st,eP,hi,iD⟩:=ae
  rw [vL] at iD
  simp only [pt]
  rw [an,←ab]
  exact SG eP (by omega) iD
 case eC=>
  obtain ⟨an,az,aN,bM,dL,us,st,eP,hi,iD⟩:=ae
  rw [vL] at iD hi
  simp only [pt]
  rw [an,bM,←ab]
  exact SG eP (by omega) (by simpa using iD)
theorem Mod.self {b:aP} {h aa:af} (e:Mod (fun q=>q=b) h aa) (k:cb):Mod (fun q=>q=b) h (aa.set b k):=e.set (fun _=>rfl) k
theorem Mod.fresh {M:aP→Prop} {h aa:af} (e:Mod M h aa) {i:Nat} (aC:h.next≤i) (k:cb):Mod M h (aa.set (al i) k):=
 e.set (fun q=>absurd (show dG (al i)<h.next from q) (by rw [cK];omega)) k
theorem Mod.SU {M N:aP→Prop} {h ae aG:af} (e:Mod M h ae) (q:Mod N ae aG) (aU:∀b,N b→h.next≤dG b):Mod M h aG:=
 ⟨Nat.le_trans e.next q.next,fun b aT ag=>by
   rw [q.get b (e.b1 aT) (fun k=>absurd (show dG b<h.next from aT) (by have:=aU b k;omega)),e.get b aT ag]⟩
inductive D where
 | i (k:IntKind) (n:Int)
 | b (x:Bool)
 | s (x:List UInt8)
 | l (size:Nat) (es:List (List D))
inductive bJ (F:aP→Prop) (h:af):List D→List V→Prop
 | nil:bJ F h [] []
 | i {k:IntKind} {n:Int} {ds:List D} {ad:List V} (t:bJ F h ds ad):bJ F h (.i k n::ds) (.int k n::ad)
 | b {x:Bool} {ds:List D} {ad:List V} (t:bJ F h ds ad):bJ F h (.b x::ds) (.bool x::ad)
 | s {x:List UInt8} {ds:List D} {ad:List V} (ag:x.length≤top) (t:bJ F h ds ad):bJ F h (.s x::ds) (.str x::ad)
 | l {size:Nat} {es:List (List D)} {v:V} {us:List (List V)} {ds:List D} {ad:List V} (aJ:Aw v) (ag:es.length≤top) (aQ:hn h size v es.length us.flatten) (hu:us.length=es.length) (bo:∀u ∈ us,u.length=size)
    (kids:∀(i:Nat) (e:List D) (u:List V),es[i]? =some e→us[i]? =some u→bJ F h e u) (ay:∀b,v.aW b→F b) (t:bJ F h ds ad):bJ F h (.l size es::ds) (v::ad)
structure cw (F:aP→Prop) (h:af) (size:Nat) (es:List (List D)) (v:V):Prop where
 room:Aw v
 le:es.length≤top
 ex:∃us:List (List V),hn h size v es.length us.flatten∧us.length=es.length∧(∀u ∈ us,u.length=size)∧∀(i:Nat) (e:List D) (u:List V),es[i]? =some e→us[i]? =some u→bJ F h e u
 wc:∀b,v.aW b→F b
section
variable {F:aP→Prop} {h aa:af} {ds:List D} {ad:List V}
theorem bJ.mod {dR M:aP→Prop} (m:Mod M h aa) (cY:∀b,F b→Old h b→¬M b∧dR b) (H:bJ F h ds ad):bJ dR aa ds ad:=by
 induction H with
 | nil=>exact .nil
 | i t bk=>exact .i bk
 | b t bk=>exact .b bk
 | s ag t bk=>exact .s ag bk
 | l aJ ag aQ hu bo kids ay t sj q2=>exact .l aJ ag (aQ.mod m fun b q=>(cY b (ay b q) (aQ.b1 q)).1) hu bo sj (fun b q=>(cY b (ay b q) (aQ.b1 q)).2) q2
theorem bJ.ext (H:bJ F h ds ad) (e:Ext h aa):bJ F aa ds ad:=by
 induction H with
 | nil=>exact .nil
 | i t bk=>exact .i bk
 | b t bk=>exact .b bk
 | s ag t bk=>exact .s ag bk
 | l aJ ag aQ hu bo kids ay t sj q2=>exact .l aJ ag (aQ.ext e) hu bo sj ay q2
theorem bJ.fg {dR:aP→Prop} (H:bJ F h ds ad) (w:∀b,F b→dR b):bJ dR h ds ad:=by
 induction H with
 | nil=>exact .nil
 | i t bk=>exact .i bk
 | b t bk=>exact .b bk
 | s ag t bk=>exact .s ag bk
 | l aJ ag aQ hu bo kids ay t sj q2=>exact .l aJ ag aQ hu bo sj (fun b q=>w b (ay b q)) q2
theorem bJ.b1 (H:bJ F h ds ad):bJ (fun b=>F b∧Old h b) h ds ad:=by
 induction H with
 | nil=>exact .nil
 | i t bk=>exact .i bk
 | b t bk=>exact .b bk
 | s ag t bk=>exact .s ag bk
 | l aJ ag aQ hu bo kids ay t sj q2=>exact .l aJ ag aQ hu bo sj (fun b q=>⟨ay b q,aQ.b1 q⟩) q2
theorem bJ.eS (H:bJ F h ds ad):eS ad=true:=by
 induction H with
 | nil=>rfl
 | i t bk=>simpa [Go.Proofs.YthemdhlheglhoaaGreatDoor.aX.eS,V.one] using bk
 | b t bk=>simpa [Go.Proofs.YthemdhlheglhoaaGreatDoor.aX.eS,V.one] using bk
 | s ag t bk=>simpa [Go.Proofs.YthemdhlheglhoaaGreatDoor.aX.eS,V.one] using bk
 | l aJ ag aQ hu bo kids ay t sj q2=>simp only [Go.Proofs.YthemdhlheglhoaaGreatDoor.aX.eS,aQ.one.1,q2,Bool.and_self]
theorem bJ.int {k:IntKind} {n:Int} (H:bJ F h (.i k n::ds) ad):∃us,ad=.int k n::us∧bJ F h ds us:=by
 cases H with
 | i t=>exact ⟨_,rfl,t⟩
theorem bJ.str {x:List UInt8} (H:bJ F h (.s x::ds) ad):∃us,ad=.str x::us∧x.length≤top∧bJ F h ds us:=by
 cases H with
 | s ag t=>exact ⟨_,rfl,ag,t⟩
theorem bJ.fv {size:Nat} {es:List (List D)} (H:bJ F h (.l size es::ds) ad):∃v us,ad=v::us∧cw F h size es v∧bJ F h ds us:=by
 cases H with
 | l aJ ag aQ hu bo kids ay t=>exact ⟨_,_,rfl,⟨aJ,ag,⟨_,aQ,hu,bo,kids⟩,ay⟩,t⟩
theorem bJ.no (H:bJ F h [] ad):ad=[]:=by cases H;rfl
end
theorem BZ {size:Nat}:∀(us:List (List V)) (i:Nat) (u:List V),(∀u ∈ us,u.length=size)→us[i]? =some u→(us.flatten.drop (i * size)).take size=u
 | [],i,u,_,h=>by simp at h
 | w::us,0,u,ai,h=>by
   simp only [List.getElem?_cons_zero,Option.some.injEq] at h
   subst h
   rw [Nat.zero_mul,List.drop_zero,List.flatten_cons,List.take_left' (ai _ (by simp))]
 | w::us,i+1,u,ai,h=>by
   rw [show (i+1) * size=size+i * size from by rw [Nat.succ_mul,Nat.add_comm],←List.drop_drop,List.flatten_cons,List.drop_left' (ai _ (by simp))]
   exact BZ us i u (fun u hu=>ai u (by simp [hu])) (by simpa using h)
theorem yU {size:Nat}:∀(us:List (List V)),(∀u ∈ us,u.length=size)→us.flatten.length=us.length * size
 | [],_=>by simp
 | w::us,ai=>by rw [List.flatten_cons,List.length_append,ai w (by simp),yU us (fun u hu=>ai u (by simp [hu])),List.length_cons,Nat.succ_mul,Nat.add_comm]
section
variable {F:aP→Prop} {h aa:af} {size:Nat} {es:List (List D)} {v:V}
theorem cw.cons {ds:List D} {ad:List V} (H:cw F h size es v) (t:bJ F h ds ad):bJ F h (.l size es::ds) (v::ad):=by
 obtain ⟨us,a,b,c,d⟩:=H.ex
 exact .l H.room H.le a b c d H.wc t
theorem cw.ext (H:cw F h size es v) (e:Ext h aa):cw F aa size es v:=by
 obtain ⟨us,a,b,c,d⟩:=H.ex
 exact ⟨H.room,H.le,⟨us,a.ext e,b,c,fun i x u an az=>(d i x u an az).ext e⟩,H.wc⟩
theorem cw.mod {dR M:aP→Prop} (m:Mod M h aa) (cY:∀b,F b→Old h b→¬M b∧dR b) (H:cw F h size es v):cw dR aa size es v:=by
 obtain ⟨us,a,b,c,d⟩:=H.ex
 exact ⟨H.room,H.le,⟨us,a.mod m fun x q=>(cY x (H.wc x q) (a.b1 q)).1,b,c,fun i x u an az=>(d i x u an az).mod m cY⟩,fun x q=>(cY x (H.wc x q) (a.b1 q)).2⟩
theorem cw.fg {dR:aP→Prop} (H:cw F h size es v) (w:∀b,F b→dR b):cw dR h size es v:=by
 obtain ⟨us,a,b,c,d⟩:=H.ex
 exact ⟨H.room,H.le,⟨us,a,b,c,fun i x u an az=>(d i x u an az).fg w⟩,fun b q=>w b (H.wc b q)⟩
theorem cw.len (H:cw F h size es v):lp v=some (.int .i64 es.length):=by
 obtain ⟨us,a,_⟩:=H.ex
 exact a.len
theorem cw.one (H:cw F h size es v):v.one=true∧v.cells=[v]∧v.fK=true:=by
 obtain ⟨us,a,_⟩:=H.ex
 exact a.one
theorem cw.nil (F:aP→Prop) (h:af) (size:Nat):cw F h size [] .b6:=⟨fun b o l c e=>(by cases e),Nat.zero_le _,⟨[],⟨by simp,rfl⟩,rfl,fun u hu=>(by cases hu),fun i e u q=>(by simp at q)⟩,fun b q=>q.elim⟩
theorem cw.at (H:cw F h size es v) {k:IntKind} {i:Nat} (aC:i<es.length):
 ∃b off u,iT size v (.int k i)=some (.ptr b (off+i * size))∧bJ F h es[i] u∧u.length=size∧(∀aa,Ext h aa→kI size (aa.get b) (off+i * size)=some (.agg u))∧∀aa,Ext h aa→∀j,j<size→iw (aa.get b) (off+i * size+j)=u[j]? :=by
 obtain ⟨us,ab,ae,ai,aG⟩:=H.ex
 have qP:i<us.length:=by omega
 have hu:=List.getElem?_eq_getElem qP
 obtain ⟨b,off,aK,aS⟩:=ab.cD (k:=k) aC
 have ay:=BZ us i _ ai hu
 have np:=yU us ai
 have hle:i * size+size≤us.length * size:=by
  have:=Nat.mul_le_mul_right size (show i+1≤us.length by omega)
  rw [Nat.succ_mul] at this
  exact this
 have O':us[i].length=size:=ai _ (List.getElem_mem qP)
 refine ⟨b,off,us[i],aK,aG i _ _ (List.getElem?_eq_getElem aC) hu,O',fun aa e=>?_,fun aa e j bK=>?_⟩
 · rw [(aS.ext e).kd (i:=i * size) (n:=size) (by omega),ay]
 · rw [Nat.add_assoc,(aS.ext e).eu (i:=i * size+j) (by omega)]
   have:((us.flatten.drop (i * size)).take size)[j]? =us[i][j]? :=by rw [ay]
   rw [List.getElem?_take_of_lt bK,List.getElem?_drop] at this
   rw [←this,List.getElem?_eq_getElem (by omega)]
end
end Go.Proofs.YthemdhlheglhoaaGreatDoor.aX
namespace Go.Proofs.YthemdhlheglhoaaGreatDoor.aX
variable [Lay]
open Go Go.RowKit
def Any (_:aP):Prop:=True
theorem SO:∀{ms:List Nat},(∀(i k:Nat),ms[i]? =some k→1≤k)→ms.length≤ms.sum
 | [],_=>Nat.le_refl _
 | m::ms,h=>by
   have bb:=h 0 m rfl
   have:=SO (ms:=ms) fun i k q=>h (i+1) k (by simpa using q)
   simp only [List.length_cons,List.sum_cons]
   omega
theorem SN:∀{ms:List Nat} {i k:Nat},ms[i]? =some k→k≤ms.sum
 | [],_,_,h=>by simp at h
 | m::ms,0,k,h=>by simp only [List.getElem?_cons_zero,Option.some.injEq] at h;subst h;simp only [List.sum_cons];omega
 | m::ms,i+1,k,h=>by
   have:=SN (ms:=ms) (i:=i) (k:=k) (by simpa using h)
   simp only [List.sum_cons];omega
end Go.Proofs.YthemdhlheglhoaaGreatDoor.aX
namespace Go.Proofs.YthemdhlheglhoaaGreatDoor.aX
variable [Lay]
set_option linter.defProp false
open Go Go.RowKit
def ak:=And.intro @akX<|And.intro @akY @akZ
def akR:=And.intro @ak0<|And.intro @ak1<|And.intro @ak2<|And.intro @ak3<|And.intro @ak4 @ak5
def akS:=And.intro @Option.isSome_some.{0}<|And.intro @Option.getD_some.{0}<|And.intro @if_true.{1}<|And.intro @if_false.{1}<|And.intro @true_and<|And.intro @and_true<|And.intro @List.getElem?_cons_zero.{0}<|And.intro @List.getElem?_cons_succ.{0}<|And.intro @List.length_cons.{0}<|And.intro @List.length_nil.{0}<|
 And.intro @List.drop_zero.{0}<|And.intro @List.drop_succ_cons.{0}<|And.intro @List.take_succ_cons.{0}<|And.intro @List.take_zero.{0}<|And.intro @List.cons_append.{0}<|And.intro @List.nil_append.{0}<|And.intro @Option.some.injEq.{0}<|And.intro @exists_eq_left'.{1}<|And.intro @List.cons.injEq.{0}<|
 And.intro @Nat.succ_ne_zero<|And.intro @ad'<|And.intro @ad9<|And.intro @List.getElem?_nil.{0}<|And.intro @decide_true<|And.intro @decide_false<|And.intro @eq_self.{1}<|And.intro @not_true_eq_false<|And.intro @not_false_eq_true<|And.intro @ite_true.{1} @ite_false.{1}
def bL:=And.intro akR (And.intro akS (And.intro @iE.eq_1 (And.intro @iE.eq_2 (And.intro @aV.fy.eq_1 (And.intro @aV.fy.eq_2 (And.intro @nM.eq_1 (And.intro @nM.eq_2 (And.intro @nM.eq_3 (And.intro @over.eq_1 (And.intro @over.eq_2 (And.intro @over.eq_3 (And.intro @eS.eq_1 (@eS.eq_2)))))))))))))
def ax:=And.intro bL (And.intro @de.ends.eq_1 (And.intro @de.ends.eq_2 (And.intro @cu.eq_1 (And.intro @cu.eq_2 (And.intro @cu.eq_3 (And.intro @cu.eq_4 (And.intro @oneOf.eq_1 (And.intro @oneOf.eq_2 top.eq_1))))))))
end Go.Proofs.YthemdhlheglhoaaGreatDoor.aX
namespace Go.Proofs.YthemdhlheglhoaaGreatDoor.aX
variable [Lay]
open Go Go.RowKit
structure Has (h:af) (n:Nat) (l:List V):Prop where
 lt:n<h.next
 g:h.get (al n)=.a1 l 0 false
theorem Has.ext {h aa:af} {n:Nat} {l:List V} (B:Has h n l) (e:Ext h aa):Has aa n l:=⟨Nat.lt_of_lt_of_le B.lt e.next,(e.get _ (eI B.lt)).trans B.g⟩
theorem dM (h:af) (l:List V):∃H,h.new (.a1 l 0 false)=H∧Ext h H∧Has H h.next l:=⟨_,rfl,(Ext.refl h).new _,by rw [eU];omega,ku _⟩
theorem ga (h:af) (z l:List V):∃H,(h.new (.a1 z 0 false)).set (al h.next) (.a1 l 0 false)=H∧Ext h H∧Has H h.next l:=
 ⟨_,rfl,((Ext.refl h).new _).set (Nat.le_refl _) _,by rw [mF,eU];omega,by rw [c4,if_pos rfl]⟩
theorem Has.set {h:af} {n m:Nat} {l:List V} (B:Has h n l) (hm:n≠m) (k:cb):Has (h.set (al m) k) n l:=⟨by rw [mF];exact B.lt,by rw [c4,if_neg (by rw [q_];exact fun q=>hm q.symm)];exact B.g⟩
theorem Has.put {h:af} {n:Nat} {l:List V} (B:Has h n l) (cR:List V):Has (h.set (al n) (.a1 cR 0 false)) n cR:=⟨by rw [mF];exact B.lt,by rw [c4,if_pos rfl]⟩
theorem cw.set {F:aP→Prop} {h:af} {size:Nat} {es:List (List D)} {v:V} (H:cw F h size es v) {b:aP} (ag:¬F b) (k:cb):cw F (h.set b k) size es v:=
 H.mod ((Mod.refl (fun x=>x=b) h).set (fun _=>rfl) k) fun x q _=>⟨fun e=>ag (e ▸ q),q⟩
theorem bJ.nG {F:aP→Prop} {h:af} {ds:List D} {ad:List V} (H:bJ F h ds ad):bJ (Old h) h ds ad:=H.b1.fg fun _ q=>q.2
theorem cw.nG {F:aP→Prop} {h:af} {size:Nat} {es:List (List D)} {v:V} (H:cw F h size es v):cw (Old h) h size es v:=by
 obtain ⟨us,a,b,c,d⟩:=H.ex
 exact ⟨H.room,H.le,⟨us,a,b,c,fun i x u an az=>(d i x u an az).nG⟩,fun b q=>a.b1 q⟩
theorem z' {h:af} {n:Nat} (aU:h.next≤n):¬Old h (al n):=fun q=>by unfold Old at q;rw [cK] at q;omega
theorem hT {i n:Nat} (h:i<n) (aU:n≤4611686018427387904):IntKind.i64.wrap ((i:Int)+1)=((i+1:Nat):Int):=by rw [wrap_i64 (by omega) (by omega)];rfl
def encI (i:Int):List D:=[.i .i64 i]
theorem cw.zI {F:aP→Prop} {h:af} {l:List Int} {v:V} (H:cw F h 1 (l.map encI) v) {k:IntKind} {i:Nat} (aC:i<l.length):
 ∃b off,iT 1 v (.int k i)=some (.ptr b (off+i * 1))∧∀aa,Ext h aa→iw (aa.get b) (off+i * 1)=some (.int .i64 l[i]):=by
 obtain ⟨b,off,u,aK,aS,bn,_,b2⟩:=H.at (k:=k) (i:=i) (by rw [List.length_map];exact aC)
 rw [List.getElem_map,encI] at aS
 obtain ⟨us,rfl,fJ⟩:=bJ.int aS
 obtain rfl:=fJ.no
 exact ⟨b,off,aK,fun aa e=>by simpa using b2 aa e 0 (by omega)⟩
section
variable {aw:Fr} {E cn:Env} {h aI:af} {w b4:World}
end
end Go.Proofs.YthemdhlheglhoaaGreatDoor.aX
namespace Go.Proofs.YthemdhlheglhoaaGreatDoor.aX
variable [Lay]
open Go Go.RowKit
section
variable {h aI:af}
end
end Go.Proofs.YthemdhlheglhoaaGreatDoor.aX
namespace Go.Proofs.YthemdhlheglhoaaGreatDoor.aX
variable [Lay]
open Go Go.RowKit
inductive AV (F:aP→Prop) (h:af):List (Int × List D)→List cO→Prop
 | nil:AV F h [] []
 | cons {n:Int} {ds:List D} {y:V} {born:Nat} {c0:List (Int × List D)} {es:List cO} (aZ:bJ F h ds y.cells) (t:AV F h c0 es):AV F h ((n,ds)::c0) (⟨.int .i64 n,y,born⟩::es)
structure alx (F:aP→Prop) (h:af) (c0:List (Int × List D)) (v:V):Prop where
 ex:∃b es,v=.map b∧Old h b∧((∃clock,h.get b=.mp es clock)∨h.get b=.iz es∧(c0.map Prod.fst).Nodup)∧AV F h c0 es∧F b
section
variable {F:aP→Prop} {h aa:af} {c0:List (Int × List D)} {es:List cO} {v:V}
theorem R8 (k n:Int):ks.run (.int .i64 k) (.int .i64 n)=some (decide (k=n)):=by
 simp only [ks,V.dZ,nh,cond_true,yP]
end
section
variable {h aI:af}
end
end Go.Proofs.YthemdhlheglhoaaGreatDoor.aX
namespace Go.Proofs.YthemdhlheglhoaaGreatDoor.aX
variable [Lay]
open Go Go.RowKit
def jw (h:af) (b:aP):Prop:=h.next≤dG b
section
variable {C:Ctx} (cY:C.P.follows .mixedOrders=true) (bG:ez C.P) (hJ:ql C) {n:Nat} {f:FuncId} (ay:Nat.beq f dk=false) (aq:C.ext f=none) (jj:∃fn,C.P.funcs[f]? =some fn∧fn.body.isSome=true)
include cY bG hJ ay aq jj
end
end Go.Proofs.YthemdhlheglhoaaGreatDoor.aX
