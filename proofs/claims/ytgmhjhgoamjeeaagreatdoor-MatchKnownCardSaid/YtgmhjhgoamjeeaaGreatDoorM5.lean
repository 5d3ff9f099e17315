/- The abstract machine and its walks (a verified interpreter of the model's code: plain definitions and lemmas, no condition). Printed by a program from longer texts: names made short. -/
import Derived.Test.YtgmhjhgoamjeeaaGreatDoorM4
import Derived.ChangeBears
import Derived.Carry
import Derived.OpenShut
import Derived.ChangeSame
import Derived.Test.YtgmhjhgoamjeeaaGreatDoorM3
import Derived.Handed
import Derived.HandedShaped
set_option linter.unusedSectionVars false
set_option linter.unusedSimpArgs false
set_option linter.unusedVariables false
set_option maxHeartbeats 64000000
noncomputable section
namespace Go.Proofs.YtgmhjhgoamjeeaaGreatDoor.aX
section
open Go Go.RowKit
variable [Lay]
section
variable (P:Program)
def zw:List Field->Nat->Option Nat
 | [],o=>some o
 | f::b5,o=>if f.offset=o then zw b5 (o+P.cellsOf f.type) else none
def zx:Bool:=(List.range P.types.size).all fun t=>match P.underlying t with
 | some (.struct b5)=>decide (zw P b5.toList 0=some (P.cellsOf t))
 | _=>true
def fc (h:ae):Nat->Nat->TypeId->List V->Prop
 | 0,_,_,_=>False
 | n+1,m,t,ag=>match P.underlying t with
   | some .bool=>∃b,ag=[.bool b]
   | some (.int k)=>∃i,ag=[.int k i]/\(Lit.int k i).wf=true
   | some .string=>∃s:List UInt8,ag=[.str s]/\s.length+1<=m
   | some (.slice e)=>1<=m/\(ag=[.bg]\/(∃b i j k,ag=[.gI b i j k])\/P.cellsOf e=0\/
      ∃b len cap,ag=[.slice b 0 len cap]/\0<len/\len<=cap/\Old h b/\∃us,mE h b us/\us.length=len * P.cellsOf e/\∃ms:List Nat,ms.length=len/\ms.sum+1<=m/\
       ∀(i k:Nat),ms[i]? =some k->1<=k/\fc h n k e ((us.drop (i * P.cellsOf e)).take (P.cellsOf e)))
   | some (.struct b5)=>ag.length=P.cellsOf t/\∃ms:List Nat,ms.length=b5.toList.length/\ms.sum+1<=m/\∀(i:Nat) (f:Field) (k:Nat),b5.toList[i]? =some f->ms[i]? =some k->1<=k/\fc h n k f.type ((ag.drop f.offset).take (P.cellsOf f.type))
   | some (.pointer e)=>1<=m/\(ag=[.kb]\/P.cellsOf e=0\/∃b,ag=[.ptr b 0]/\Old h b/\∃us,mE h b us/\us.length=P.cellsOf e/\∃k,k+1<=m/\fc h n k e us)
   | some (.map _ _)=>ag=[.jM]\/ag=[.bad]
   | some (.interface _)=>ag=[.nilIface]\/ag=[.bad]
   | _=>True
end
theorem fc.ext {P:Program} {h ab:ae} (e:Ext h ab):∀(n m:Nat) (t:TypeId) (ag:List V),fc P h n m t ag->fc P ab n m t ag
 | 0,_,_,_,H=>H
 | n+1,m,t,ag,H=>by
   unfold fc at H ⊢
   split at H<;>try exact H
   . refine ⟨H.1,?_⟩;rcases H.2 with H | H | H | ⟨b,len,cap,aa,ad,aJ,cV,us,b7,cj,ms,ei,hH,lb⟩
     . exact .inl H
     . exact .inr (.inl H)
     . exact .inr (.inr (.inl H))
     . exact .inr (.inr (.inr ⟨b,len,cap,aa,ad,aJ,e.bG cV,us,e.rd cV b7,cj,ms,ei,hH,fun i k aB=>⟨(lb i k aB).1,fc.ext e n _ _ _ (lb i k aB).2⟩⟩))
   . obtain ⟨aa,ms,ad,aJ,bu⟩:=H;exact ⟨aa,ms,ad,aJ,fun i f k av aB=>⟨(bu i f k av aB).1,fc.ext e n _ _ _ (bu i f k av aB).2⟩⟩
   . refine ⟨H.1,?_⟩;rcases H.2 with H | H | ⟨b,aa,cV,us,b7,cj,k,ei,hH⟩
     . exact .inl H
     . exact .inr (.inl H)
     . exact .inr (.inr ⟨b,aa,e.bG cV,us,e.rd cV b7,cj,k,ei,fc.ext e n _ _ _ hH⟩)
mutual
def hA {H:Type}:DataW H->Nat
 | .lit (.string bytes)=>bytes.length+1
 | .lit _=>1
 | .nil=>1
 | .ptr d=>hA d+1
 | .slice elems spare=>pv elems+pv spare+1
 | .agg parts=>pv parts+1
 | .iface _ d=>hA d+1
 | .map entries=>NF entries+1
 | .held _=>1
def pv {H:Type}:List (DataW H)->Nat
 | []=>0
 | d::r=>hA d+pv r
def NF {H:Type}:List (Lit × DataW H)->Nat
 | []=>0
 | x::r=>Yw x+NF r
def Yw {H:Type}:Lit × DataW H->Nat
 | (.string bytes,d)=>bytes.length+hA d+1
 | (_,d)=>hA d+1
end
theorem sa {H:Type} (d:DataW H):1<=hA d:=by
 cases d with
 | lit l=>cases l<;>simp [hA]
 | _=>simp [hA]
theorem HO {H:Type}:∀l:List (DataW H),pv l=(l.map hA).sum
 | []=>by simp [pv]
 | d::r=>by simp only [pv,aqu,List.sum_cons,HO r]
theorem DC {w:World} {base:Nat} {a:Addr} {n:Nat} {l:List Value} (h:w.cells? base a n=some l):l.length=n/\∀i,i<n->w.cell? (a.add i)=l[i]? :=by
 unfold World.cells? at h
 split at h
 . exact ⟨by simpa using mapM_some_length h,fun i ax=>mapM_some_get h i i (by simp [ax])⟩
 . cases h
theorem UM {E ar:Env} (he:E.le ar) {ag:List V} {l:List Value} (H:bf E ag l):bf ar ag l:=bf.mono he ag l H
section
variable {H:Type} {enc:TypeId × Value->H} {P:Program} {W:World} {base:Nat} {sp:Nat->Bool} {held:Bool}
def Lays (P:Program) (W:World) (n m:Nat) (t:TypeId) (cs:List Value):Prop:=
 ∀(E:Env) (h:ae),a8 ⟨W,fun _=>none⟩ E h W->∃ar ab ag,E.le ar/\Ext h ab/\a8 ⟨W,fun _=>none⟩ ar ab W/\bf ar ag cs/\ag.length=cs.length/\fc P ab n m t ag
theorem SN (n size:Nat) (e:TypeId):∀(pieces:List (List Value)) (ms:List Nat),ms.length=pieces.length->(∀(i:Nat) (l:List Value) (k:Nat),pieces[i]? =some l->ms[i]? =some k->l.length=size/\Lays P W n k e l)->
 ∀(E:Env) (h:ae),a8 ⟨W,fun _=>none⟩ E h W->∃ar ab us,E.le ar/\Ext h ab/\a8 ⟨W,fun _=>none⟩ ar ab W/\bf ar us pieces.flatten/\us.length=pieces.length * size/\
  ∀(i k:Nat),ms[i]? =some k->fc P ab n k e ((us.drop (i * size)).take size)
 | [],[],_,_,E,h,s=>⟨E,h,[],fun _ _ q=>q,Ext.refl h,s,rfl,by simp,fun i k ax=>by simp at ax⟩
 | [],_::_,aA,_,_,_,_=>by simp at aA
 | _::_,[],aA,_,_,_,_=>by simp at aA
 | l::ls,m::ms,lF,af,E,h,s=>by
   obtain ⟨aA,H⟩:=af 0 l m rfl rfl;obtain ⟨gr,aa,ag,bD,a2,a3,a4,a5,hT⟩:=H E h s;obtain ⟨bA,ad,us,b8,cg,eM,jE,jc,ox⟩:=SN n size e ls ms (by simpa using lF) (fun i l k ak al=>af (i+1) l k (by simpa using ak) (by simpa using al)) gr aa a3;refine ⟨bA,ad,ag++us,bD.trans b8,a2.trans cg,eM,?_,?_,?_⟩
   . rw [aqH];exact bf.append (UM b8 a4) jE
   . rw [apD,jc,a5,aA,apB,aqw];omega
   . intro i k ax;cases i with
     | zero=>
       rw [arE,aqy,arG (by rw [a5,aA])];simp only [apK,aps] at ax;subst ax;exact fc.ext cg _ _ _ _ hT
     | succ i=>
       rw [aqw,Nat.one_mul,Nat.add_comm,<-aqU,List.drop_left' (by rw [a5,aA])];exact ox i k (by simpa using ax)
theorem SM (n:Nat):∀(b5:List Field) (ms:List Nat) (o b2:Nat) (cs:List Value),zw P b5 o=some b2->cs.length=b2->ms.length=b5.length->(∀(i:Nat) (f:Field) (k:Nat),b5[i]? =some f->ms[i]? =some k->Lays P W n k f.type ((cs.drop f.offset).take (P.cellsOf f.type)))->
 o<=b2/\∀(E:Env) (h:ae),a8 ⟨W,fun _=>none⟩ E h W->∃ar ab ag,E.le ar/\Ext h ab/\a8 ⟨W,fun _=>none⟩ ar ab W/\bf ar ag (cs.drop o)/\ag.length=b2-o/\
  ∀(i:Nat) (f:Field) (k:Nat),b5[i]? =some f->ms[i]? =some k->o<=f.offset/\fc P ab n k f.type ((ag.drop (f.offset-o)).take (P.cellsOf f.type))
 | [],_::_,_,_,_,_,_,lF,_=>by simp at lF
 | _::_,[],_,_,_,_,_,lF,_=>by simp at lF
 | [],[],o,b2,cs,aE,aA,_,_=>by simp only [zw,aps] at aE;subst aE;refine ⟨apv _,fun E h s=>⟨E,h,[],fun _ _ q=>q,Ext.refl h,s,?_,by simp,fun i f k av=>by simp at av⟩⟩;rw [aqv (by omega)];rfl
 | f::b5,m::ms,o,b2,cs,aE,aA,lF,af=>by
   simp only [zw] at aE;by_cases av:f.offset=o
   . rw [apz av] at aE;obtain ⟨g1,g2⟩:=SM n b5 ms (o+P.cellsOf f.type) b2 cs aE aA (by simpa using lF) (fun i f k ak al=>af (i+1) f k (by simpa using ak) (by simpa using al));refine ⟨by omega,fun E h s=>?_⟩;have wa:=af 0 f m rfl rfl;obtain ⟨gr,aa,ag,bD,a2,a3,a4,a5,hT⟩:=wa E h s;obtain ⟨bA,ad,us,b8,cg,eM,jE,jc,ox⟩:=g2 gr aa a3;have Bv:ag.length=P.cellsOf f.type:=by rw [a5,ap4,aqa,av];omega
     refine ⟨bA,ad,ag++us,bD.trans b8,a2.trans cg,eM,?_,?_,?_⟩
     . have e:cs.drop o=(cs.drop f.offset).take (P.cellsOf f.type)++cs.drop (o+P.cellsOf f.type):=by
        rw [av,<-aqU,aq2]
       rw [e];exact bf.append (UM b8 a4) jE
     . rw [apD,Bv,jc];omega
     . intro i g k aG aB;cases i with
       | zero=>
         simp only [apK,aps] at aG aB;subst aG aB;refine ⟨by omega,?_⟩;rw [av,aq7,aqy,arG Bv];exact fc.ext cg _ _ _ _ hT
       | succ i=>
         obtain ⟨bK,bR⟩:=ox i g k (by simpa using aG) (by simpa using aB);refine ⟨by omega,?_⟩;rw [show g.offset-o=P.cellsOf f.type + (g.offset - (o+P.cellsOf f.type)) from by omega,<-aqU,List.drop_left' Bv];exact bR
   . rw [apw av] at aE;cases aE
theorem Pb {w:World} {a:Addr} {y:Value} (h:w.cell? a=some y):a.spot=none/\∃c el bZ,w.heap[a.block]? =some (.cells c el bZ)/\c[a.off]? =some y:=by
 refine ⟨World.cell?_spot h,?_⟩;unfold World.cell? at h
 split at h
 . rename_i c el bZ a'
   split at h
   . cases h
   . exact ⟨c,el,bZ,a',h⟩
 . cases h
theorem XI (a:Addr) (n:Nat):(a.add n).block=a.block:=by unfold Addr.add;split<;>rfl
theorem XJ (a:Addr) (n:Nat):(a.add n).off=a.off+n:=by unfold Addr.add;split<;>simp_all
theorem ali {w:World} {a:Addr} {l:List Value} (aY:0<l.length) (h:∀i,i<l.length->w.cell? (a.add i)=l[i]?):
 a.spot=none/\∃c el bZ,w.heap[a.block]? =some (.cells c el bZ)/\a.off+l.length<=c.size/\∀i,i<l.length->c[a.off+i]? =l[i]? :=by
 have nN:w.cell? (a.add 0)=some l[0]:=by rw [h 0 aY];exact apr aY
 obtain ⟨s1,c,el,bZ,s2,lu⟩:=Pb nN;have dw:a.add 0=a:=by unfold Addr.add;simp
 rw [dw] at s1 s2 lu;have key:∀i,i<l.length->c[a.off+i]? =l[i]? :=by intro i ax;have q:=h i ax;rw [apr ax] at q ⊢;obtain ⟨_,fD,anV,anY,t2,t3⟩:=Pb q;rw [XI,s2] at t2;rw [XJ] at t3;simp only [aps,Obj.cells.injEq] at t2;obtain ⟨rfl,_,_⟩:=t2;exact t3
 refine ⟨s1,c,el,bZ,s2,?_,key⟩;have:=key (l.length-1) (by omega);rw [apr (by omega)] at this;have aR:=(apt.1 this).1;omega
theorem VO {E:Env} {h:ae} (s:a8 ⟨W,fun _=>none⟩ E h W) {a:Addr} {cap:Nat} {l:List Value} (aY:0<l.length) (ao:∀i,i<l.length->W.cell? (a.add i)=l[i]?) {us:List V} (aC:bf E us l):
 ∃ar ab b,E.le ar/\Ext h ab/\a8 ⟨W,fun _=>none⟩ ar ab W/\Old ab b/\a.spot=none/\ar b=some ⟨a.block,a.off,cap⟩/\mE ab b us:=by
 obtain ⟨s1,c,el,bZ,s2,lu,n_⟩:=ali aY ao;have R8:us.length=l.length:=(bf.length aC).symm;refine ⟨rK E h ⟨a.block,a.off,cap⟩,h.new (.ro us),aw h.next,L' s _,(Ext.refl h).new _,alO s s2 (by omega) fun i v y bs a6=>?_,TP,s1,VN _ _ _,.inl (qY _)⟩;have ax:i<l.length:=by have:=(apN.1 bs).1;omega
 rw [n_ i ax] at a6;obtain ⟨tq,aK,aS⟩:=bf.get aC i v bs;rw [a6] at aK;simp only [aps] at aK;rw [aK];exact aS
theorem QC {α:Type} (size:Nat):∀(pieces:List (List α)) (i j:Nat),(∀l ∈ pieces,l.length=size)->i<pieces.length->j<size->pieces.flatten[i * size+j]? =(pieces[i]?).bind (·[j]?)
 | [],i,j,_,ax,_=>by simp at ax
 | l::ls,i,j,af,ax,bp=>by
   have aA:l.length=size:=af l (by simp);cases i with
   | zero=>
     rw [arE,apW,aqH,apM (by omega)];simp
   | succ i=>
     rw [aqH,apO (by rw [aA,aqw];omega)];rw [show (i+1) * size+j-l.length=i * size+j from by rw [aA,aqw];omega];rw [QC size ls i j (fun l aA=>af l (by simp [aA])) (by simpa using ax) bp];simp
theorem QD {α:Type} (size:Nat):∀(pieces:List (List α)),(∀l ∈ pieces,l.length=size)->pieces.flatten.length=pieces.length * size
 | [],_=>by simp
 | l::ls,af=>by rw [aqH,apD,QD size ls (fun l aA=>af l (by simp [aA])),af l (by simp),apB,aqw];omega
theorem T8 {α:Type} (R:Nat->α->Prop):∀(len:Nat),(∀i,i<len->∃l,R i l)->∃bn:List α,bn.length=len/\∀i l,bn[i]? =some l->R i l
 | 0,_=>⟨[],rfl,fun i l q=>by simp at q⟩
 | m+1,h=>by
   obtain ⟨bn,ak,al⟩:=T8 R m (fun i ax=>h i (by omega));obtain ⟨l,aa⟩:=h m (by omega);refine ⟨bn++[l],by simp [ak],fun i eS fg=>?_⟩;by_cases ax:i<bn.length
   . rw [apM ax] at fg;exact al i eS fg
   . rw [apO (by omega)] at fg;have dw:i-bn.length=0:=by
      by_cases q:i-bn.length=0
      . exact q
      . rw [apT (by simp;omega)] at fg;cases fg
     rw [dw] at fg;simp at fg;subst fg;obtain rfl:i=m:=by omega
     exact aa
theorem Fg (dN:zx P=true) (df:laidOutB P=true):∀(n:Nat) (t:TypeId) (cs:List Value) (x:DataW H × List MemPlace),t<P.types.size->DataW.trod enc P W base sp held n t cs=some x->Lays P W n (hA x.1) t cs
 | 0,t,cs,x,_,h=>by simp [DataW.trod] at h
 | n+1,t,cs,x,aR,h=>by
   have Du:∀(cs:List Value),(∀ab ag,ag.length=cs.length->fc P ab (n+1) (hA x.1) t ag)->Lays P W (n+1) (hA x.1) t cs:=by
    intro cs H E h s;refine ⟨E,h,cs.map fun _=>.bad,fun _ _ q=>q,Ext.refl h,s,?_,by simp,H _ _ (by simp)⟩;clear H
    induction cs with
    | nil=>rfl
    | cons c cs bb=>exact ⟨c,cs,rfl,by simp [Rel],bb⟩
   cases hu:P.underlying t with
   | none=>
     refine Du cs fun ab ag _=>?_;simp only [fc,hu]
   | some u=>
     cases u with
     | bool=>
       obtain ⟨b,rfl,_⟩:=DataW.trod_bool hu h;intro E h s;exact ⟨E,h,[.bool b],fun _ _ q=>q,Ext.refl h,s,⟨_,_,rfl,rfl,rfl⟩,rfl,by simp only [fc,hu];exact ⟨b,rfl⟩⟩
     | int k=>
       obtain ⟨i,rfl,_,hw⟩:=DataW.trod_int hu h;intro E h s;exact ⟨E,h,[.int k i],fun _ _ q=>q,Ext.refl h,s,⟨_,_,rfl,rfl,rfl⟩,rfl,by simp only [fc,hu];exact ⟨i,rfl,hw⟩⟩
     | string=>
       obtain ⟨b,rfl,rfl,_⟩:=DataW.trod_string hu h;intro E h s;exact ⟨E,h,[.str b.data.toList],fun _ _ q=>q,Ext.refl h,s,⟨_,_,rfl,rfl,rfl⟩,rfl,by simp only [fc,hu,hA];exact ⟨_,rfl,apv _⟩⟩
     | struct b5=>
       obtain ⟨xs,uF,aV,rfl,aA,yF,av⟩:=DataW.trod_struct hu h;obtain rfl:n=uF:=by omega
       have aeQ:zw P b5.toList 0=some (P.cellsOf t):=by unfold zx at dN;rw [apU] at dN;have:=dN t (aqQ.2 aR);rw [hu] at this;exact of_decide_eq_true this
       have iK:∀(i:Nat) (f:Field) (k:Nat),b5.toList[i]? =some f->(xs.map fun x=>hA x.1)[i]? =some k->Lays P W n k f.type ((cs.drop f.offset).take (P.cellsOf f.type)):=by
        intro i f k ax aB;have oN:f ∈ b5.toList:=apY ax;have vV:b5[i]? =some f:=by simpa using ax
        have:=av i f vV;have RH:i<xs.length:=by rw [yF];exact (apt.1 vV).1
        rw [apr RH] at this;rw [aqi,apr RH,aqV,aps] at aB;subst aB;exact Fg dN df n _ _ _ ((kid_struct df aR hu).1 f oN) this
       intro E h s;obtain ⟨_,g⟩:=SM n b5.toList (xs.map fun x=>hA x.1) 0 _ cs aeQ aA (by simp [yF]) iK;obtain ⟨ar,ab,ag,bD,a2,a3,a4,a5,hT⟩:=g E h s;refine ⟨ar,ab,ag,bD,a2,a3,by simpa using a4,by rw [a5,aA];omega,?_⟩;simp only [fc,hu];refine ⟨by omega,xs.map fun x=>hA x.1,by simp [yF],?_,fun i f k oN aB=>⟨?_,by simpa using (hT i f k oN aB).2⟩⟩
       . simp only [hA,HO,List.map_map];exact apv _
       . rw [aqi,Option.map_eq_some_iff] at aB;obtain ⟨y,_,rfl⟩:=aB;exact sa _
     | slice e=>
       rcases DataW.trod_slice hu h with ⟨rfl,rfl⟩ | ⟨a,len,cap,elems,rest,uF,aV,rfl,rfl,ah,sz,_,Rp,Jd,_,_⟩
       . intro E h s;exact ⟨E,h,[.bg],fun _ _ q=>q,Ext.refl h,s,⟨_,_,rfl,rfl,rfl⟩,rfl,by simp only [fc,hu];exact ⟨sa _,.inl trivial⟩⟩
       . obtain rfl:n=uF:=by omega
         by_cases aZ:P.cellsOf e=0
         . refine Du _ fun ab ag _=>?_;simp only [fc,hu];exact ⟨sa _,.inr (.inr (.inl aZ))⟩
         by_cases j6:len=0
         . subst j6;intro E h s;refine ⟨E,h,[.gI .z 0 0 0],fun _ _ q=>q,Ext.refl h,s,⟨_,_,rfl,?_,rfl⟩,rfl,by simp only [fc,hu];exact ⟨sa _,.inr (.inl ⟨_,_,_,_,rfl⟩)⟩⟩;simp only [Rel];exact ⟨_,_,rfl⟩
         . -- its elements
           have j8:∀i,i<len->∃l,W.cells? base (a.add (i * P.cellsOf e)) (P.cellsOf e)=some l/\∀k:Nat,(elems.map fun x=>hA x.1)[i]? =some k->Lays P W n k e l:=by intro i ax;have:=Jd i ax;rw [apr (by omega)] at this;rw [Option.bind_eq_some_iff] at this;obtain ⟨l,aa,ad⟩:=this;refine ⟨l,aa,fun k aB=>?_⟩;rw [aqi,apr (by omega),aqV,aps] at aB;subst aB;exact Fg dN df n _ _ _ (kid_slice df aR hu) ad
           obtain ⟨pieces,kD,hZ⟩:∃pieces:List (List Value),pieces.length=len/\∀i (l:List Value),pieces[i]? =some l->W.cells? base (a.add (i * P.cellsOf e)) (P.cellsOf e)=some l/\∀k:Nat,(elems.map fun x=>hA x.1)[i]? =some k->Lays P W n k e l:=by exact T8 (fun i l=>W.cells? base (a.add (i * P.cellsOf e)) (P.cellsOf e)=some l/\∀k:Nat,(elems.map fun x=>hA x.1)[i]? =some k->Lays P W n k e l) len j8
           have db:∀(i:Nat) (l:List Value) (k:Nat),pieces[i]? =some l->(elems.map fun x=>hA x.1)[i]? =some k->l.length=P.cellsOf e/\Lays P W n k e l:=by intro i l k ax aB;obtain ⟨ak,al⟩:=hZ i l ax;exact ⟨(DC ak).1,al k aB⟩
           have RW:∀l ∈ pieces,l.length=P.cellsOf e:=by intro l aA;obtain ⟨i,ax⟩:=List.getElem?_of_mem aA;exact (DC (hZ i l ax).1).1
           intro E h s;obtain ⟨gr,aa,us,bD,a2,a3,a4,a5,hT⟩:=SN n (P.cellsOf e) e pieces (elems.map fun x=>hA x.1) (by simp [Rp,kD]) db E h s;have iK:=QD (P.cellsOf e) pieces RW;have sE:0<len * P.cellsOf e:=Nat.mul_pos (by omega) (by omega);have IW:∀i,i<pieces.flatten.length->W.cell? (a.add i)=pieces.flatten[i]? :=by
            intro q az;rw [iK] at az;have RN:q % P.cellsOf e<P.cellsOf e:=Nat.mod_lt _ (by omega);have hdiv:q / P.cellsOf e<pieces.length:=Nat.div_lt_of_lt_mul (by rw [Nat.mul_comm];exact az);have rb:q / P.cellsOf e * P.cellsOf e+q % P.cellsOf e=q:=by rw [Nat.mul_comm];exact Nat.div_add_mod q _
            rw [<-rb,QC (P.cellsOf e) pieces _ _ RW hdiv RN,apr hdiv];obtain ⟨ak,_⟩:=hZ _ _ (apr hdiv);have:=(DC ak).2 _ RN;rw [Option.bind_some,<-this];congr 1;unfold Addr.add;by_cases bJ:q / P.cellsOf e * P.cellsOf e=0
            . rw [bJ];simp
            . by_cases z2:q % P.cellsOf e=0
              . rw [z2];simp
              . have z3:¬(q / P.cellsOf e * P.cellsOf e+q % P.cellsOf e=0):=by omega
                rw [apw bJ,apw z2,apw z3];simp [aqx]
           obtain ⟨bA,ad,b,b8,cg,eM,jE,jc,ox,HF⟩:=VO a3 (cap:=cap) (by rw [iK,kD];exact sE) IW a4;refine ⟨bA,ad,[.slice b 0 len cap],bD.trans b8,a2.trans cg,eM,⟨_,_,rfl,?_,rfl⟩,rfl,?_⟩
           . simp only [Rel];refine ⟨_,ox,sz,?_⟩;obtain ⟨Yl,ajB,st⟩:=a;simp only at jc;subst jc;rfl
           . simp only [fc,hu];refine ⟨sa _,.inr (.inr (.inr ⟨b,len,cap,rfl,by omega,sz,jE,us,HF,by rw [a5,kD],elems.map fun x=>hA x.1,by simp [Rp],?_,fun i k aB=>⟨?_,fc.ext cg _ _ _ _ (hT i k aB)⟩⟩))⟩
             . simp only [hA,HO,List.map_map];exact Nat.add_le_add_right (Nat.le_add_right _ _) 1
             . rw [aqi,Option.map_eq_some_iff] at aB;obtain ⟨y,_,rfl⟩:=aB;exact sa _
     | pointer e=>
       rcases DataW.trod_pointer hu h with ⟨rfl,rfl⟩ | ⟨a,nF,y,uF,aV,rfl,rfl,ao,a6⟩
       . intro E h s;exact ⟨E,h,[.kb],fun _ _ q=>q,Ext.refl h,s,⟨_,_,rfl,rfl,rfl⟩,rfl,by simp only [fc,hu];exact ⟨sa _,.inl trivial⟩⟩
       . obtain rfl:n=uF:=by omega
         by_cases aZ:P.cellsOf e=0
         . refine Du _ fun ab ag _=>?_;simp only [fc,hu];exact ⟨sa _,.inr (.inl aZ)⟩
         . intro E h s;obtain ⟨ak,al⟩:=DC ao;obtain ⟨gr,aa,us,bD,a2,a3,a4,a5,hT⟩:=Fg dN df n _ _ _ (kid_pointer df aR hu) a6 E h s;obtain ⟨bA,ad,b,b8,cg,eM,jE,jc,ox,HF⟩:=VO a3 (cap:=0) (by omega) (fun i ax=>al i (by omega)) a4;refine ⟨bA,ad,[.ptr b 0],bD.trans b8,a2.trans cg,eM,⟨_,_,rfl,?_,rfl⟩,rfl,?_⟩
           . simp only [Rel];refine ⟨_,ox,?_⟩;obtain ⟨Yl,ajB,st⟩:=a;simp only at jc;subst jc;rfl
           . simp only [fc,hu];exact ⟨sa _,.inr (.inr ⟨b,rfl,jE,us,HF,by omega,_,apv _,fc.ext cg _ _ _ _ hT⟩)⟩
     | map k e=>
       have ic:cs.length=1:=by
        unfold DataW.trod at h;rw [hu] at h
        split at h<;>simp_all
       intro E h s;refine ⟨E,h,[.bad],fun _ _ q=>q,Ext.refl h,s,?_,by simp [ic],by simp only [fc,hu];exact .inr trivial⟩
       match cs,ic with
       | [c],_=>exact ⟨c,[],rfl,by simp [Rel],rfl⟩
     | interface ms=>
       have ic:cs.length=1:=by
        unfold DataW.trod at h;rw [hu] at h
        split at h<;>simp_all
       intro E h s;refine ⟨E,h,[.bad],fun _ _ q=>q,Ext.refl h,s,?_,by simp [ic],by simp only [fc,hu];exact .inr trivial⟩
       match cs,ic with
       | [c],_=>exact ⟨c,[],rfl,by simp [Rel],rfl⟩
     | _=>
       refine Du cs fun ab ag _=>?_;simp only [fc,hu]
def vi (P:Program) (h:ae) (n m:Nat) (t:TypeId) (v:V):Prop:=
 match P.underlying t with
 | some (.struct _) | some (.array _ _)=>∃ag,v=.agg ag/\fc P h n m t ag
 | _=>fc P h n m t [v]
theorem vi.ext {h ab:ae} (e:Ext h ab) {n m:Nat} {t:TypeId} {v:V} (H:vi P h n m t v):vi P ab n m t v:=by
 unfold vi at H ⊢
 split at H
 . obtain ⟨ag,ak,al⟩:=H;exact ⟨ag,ak,fc.ext e _ _ _ _ al⟩
 . obtain ⟨ag,ak,al⟩:=H;exact ⟨ag,ak,fc.ext e _ _ _ _ al⟩
 . exact fc.ext e _ _ _ _ H
theorem ah_ (dN:zx P=true) (df:laidOutB P=true) {r:Reach} {ow:Nat} {t:TypeId} {v:Value} {d:DataW H} {p:List MemPlace} (aR:t<P.types.size) (bz:Value.okWide P W r ow t v) (aH:DataW.Trod enc P W base sp held t v d p) {E:Env} {h:ae} (s:a8 ⟨W,fun _=>none⟩ E h W):
 ∃n ar ab x,E.le ar/\Ext h ab/\a8 ⟨W,fun _=>none⟩ ar ab W/\Rel ar x v/\vi P ab n (hA d) t x:=by
 obtain ⟨fuel,av⟩:=aH;obtain ⟨ar,ab,ag,bD,a2,a3,a4,a5,hT⟩:=Fg dN df _ _ _ _ aR av E h s;have agg:(∃cs,v=.agg cs)->∃x,Rel ar x v/\x=.agg ag:=by rintro ⟨cs,rfl⟩;exact ⟨.agg ag,by simp only [Rel];exact ⟨cs,rfl,a4⟩,rfl⟩
 have one:v.cells=#[v]->∃x,Rel ar x v/\ag=[x]:=by
  intro ao;rw [ao] at a4 a5
  match ag,a4,a5 with
  | [x],⟨y,cp,aK,aS,bU⟩,_=>
    simp only [ary] at aK;exact ⟨x,aK.1 ▸ aS,rfl⟩
 refine ⟨fuel,ar,ab,?_⟩;unfold Value.okWide at bz;cases hu:P.underlying t with
 | none=>
   rw [hu] at bz;simp only [Cell.okWide,Cell.ok,hu] at bz
 | some u=>
   rw [hu] at bz;unfold vi;rw [hu];cases u<;>simp only at bz ⊢<;>first
    | (obtain ⟨cs,bs,_⟩:=bz
       obtain ⟨x,ak,al⟩:=agg ⟨cs,bs⟩;exact ⟨x,bD,a2,a3,ak,ag,al,hT⟩)
    | (have ao:v.cells=#[v]:=by
        cases v<;>first
         | rfl
         | (simp only [Cell.okWide,Cell.ok,hu] at bz)
       obtain ⟨x,ak,al⟩:=one ao;exact ⟨x,bD,a2,a3,ak,al ▸ hT⟩)
def Ad (P:Program) (h:ae):Nat->List TypeId->List V->Prop
 | _,[],[]=>True
 | m,t::bq,v::ag=>∃k br,k+br<=m/\(∃n,vi P h n k t v)/\Ad P h br bq ag
 | _,_,_=>False
theorem SL (dN:zx P=true) (df:laidOutB P=true) {r:Reach} {ow:Nat}:∀{bq:List TypeId} {ag:List Value} {ds:List (DataW H)} {p:List MemPlace},(∀t ∈ bq,t<P.types.size)->(∀(j:Nat) t v,bq[j]? =some t->ag[j]? =some v->Value.okWide P W r ow t v)->
 DataW.TrodAll enc P W base sp held bq ag ds p->∀{E:Env} {h:ae},a8 ⟨W,fun _=>none⟩ E h W->∃ar ab xs,E.le ar/\Ext h ab/\a8 ⟨W,fun _=>none⟩ ar ab W/\bf ar xs ag/\Ad P ab (pv ds) bq xs
 | [],[],ds,p,_,_,_,E,h,s=>⟨E,h,[],fun _ _ q=>q,Ext.refl h,s,rfl,by unfold Ad;trivial⟩
 | [],_::_,ds,p,_,_,aH,E,h,s=>by cases ds<;>exact aH.elim
 | _::_,[],ds,p,_,_,aH,E,h,s=>by cases ds<;>exact aH.elim
 | _::_,_::_,[],p,_,_,aH,E,h,s=>aH.elim
 | t::bq,v::ag,d::ds,p,aE,bs,⟨cc,cx,aa,ad,_⟩,E,h,s=>by obtain ⟨n,gr,g1,x,bD,a2,a3,a4,a5⟩:=ah_ dN df (aE t (by simp)) (bs 0 t v rfl rfl) aa s;obtain ⟨bA,g2,xs,b8,cg,eM,jE,jc⟩:=SL dN df (fun t q=>aE t (by simp [q])) (fun j t v ak al=>bs (j+1) t v (by simpa using ak) (by simpa using al)) ad a3;exact ⟨bA,g2,x::xs,bD.trans b8,a2.trans cg,eM,⟨_,_,rfl,Rel.mono b8 _ _ a4,jE⟩,hA d,pv ds,by simp only [pv];exact apv _,⟨n,a5.ext cg⟩,jc⟩
theorem Zy (dN:zx P=true) (df:laidOutB P=true) {r:Reach} {ow:Nat} {f:FuncId} {bq:List TypeId} {ag:List Value} {ds:List (DataW H)} {p:List MemPlace} (fz:∀t ∈ bq,t<P.types.size) (bs:∀(j:Nat) t v,bq[j]? =some t->ag[j]? =some v->Value.okWide P W r ow t v)
 (aH:DataW.TrodAll enc P W base sp held bq ag ds p) (yg:Lay.ok W) (bE:ec P) (ah:∃fn,P.funcs[f]? =some fn/\fn.body.isSome=true) (ao:∀(h:ae) (xs:List V),Ad P h (pv ds) bq xs->c9 P f xs h fun y _=>y=.bool true):
 Calls P f ag.toArray W fun e w'=>e=.returned (.bool true)/\Below W.heap.size W w':=by
 obtain ⟨E,h,xs,_,_,a3,a4,a5⟩:=SL dN df fz bs aH (Gp W yg);obtain ⟨y,ab,pN,rfl⟩:=ao h xs a5;refine (pN.calls bE ah _ E W ag a4 a3).mono fun e w' q=>?_;obtain ⟨ar,x,rfl,_,al,aI⟩:=q;simp only [Rel] at al;subst al;exact ⟨rfl,aI.frame⟩
end
end
section
open Go Go.RowKit
variable [Lay]
section
variable {P:Program} {h:ae} {n m:Nat} {t:TypeId}
def Gd (v:V):Prop:=∀b off l c,v=.slice b off l c->l<=c
end
end
section
open Go Go.RowKit Go.ChangeShapes Go.WideShapes
variable [Lay]
section
variable {H:Type} {enc:TypeId × Value->H} {P:Program}
end
end
section
open Go Go.RowKit
variable [Lay]
theorem alJ {P:Program} {h:ae} {B:Nat} {xs:List V} (aZ:Ad P h B [] xs):xs=[]:=by
 match xs,aZ with
 | [],_=>rfl
section
variable {P:Program} {h:ae} {n m:Nat} {t:TypeId} {v:V}
end
inductive D where
 | i (k:IntKind) (n:Int)
 | b (x:Bool)
 | s (x:List UInt8)
 | l (size:Nat) (es:List (List D))
inductive bN (F:aL->Prop) (h:ae):List D->List V->Prop
 | nil:bN F h [] []
 | i {k:IntKind} {n:Int} {ds:List D} {ag:List V} (t:bN F h ds ag):bN F h (.i k n::ds) (.int k n::ag)
 | b {x:Bool} {ds:List D} {ag:List V} (t:bN F h ds ag):bN F h (.b x::ds) (.bool x::ag)
 | s {x:List UInt8} {ds:List D} {ag:List V} (ah:x.length<=top) (t:bN F h ds ag):bN F h (.s x::ds) (.str x::ag)
 | l {size:Nat} {es:List (List D)} {v:V} {us:List (List V)} {ds:List D} {ag:List V} (aC:Gd v) (ah:es.length<=top) (aZ:fq h size v es.length us.flatten) (hu:us.length=es.length) (bk:∀u ∈ us,u.length=size)
    (kids:∀(i:Nat) (e:List D) (u:List V),es[i]? =some e->us[i]? =some u->bN F h e u) (av:∀b,v.aW b->F b) (t:bN F h ds ag):bN F h (.l size es::ds) (v::ag)
structure b0 (F:aL->Prop) (h:ae) (size:Nat) (es:List (List D)) (v:V):Prop where
 room:Gd v
 le:es.length<=top
 ex:∃us:List (List V),fq h size v es.length us.flatten/\us.length=es.length/\(∀u ∈ us,u.length=size)/\∀(i:Nat) (e:List D) (u:List V),es[i]? =some e->us[i]? =some u->bN F h e u
 AO:∀b,v.aW b->F b
section
variable {F:aL->Prop} {h ab:ae} {ds:List D} {ag:List V}
theorem bN.mod {dQ M:aL->Prop} (m:Mod M h ab) (cJ:∀b,F b->Old h b->¬M b/\dQ b) (H:bN F h ds ag):bN dQ ab ds ag:=by
 induction H with
 | nil=>exact .nil
 | i t bb=>exact .i bb
 | b t bb=>exact .b bb
 | s ah t bb=>exact .s ah bb
 | l aC ah aZ hu bk kids av t uu sO=>exact .l aC ah (aZ.mod m fun b q=>(cJ b (av b q) (aZ.bG q)).1) hu bk uu (fun b q=>(cJ b (av b q) (aZ.bG q)).2) sO
theorem bN.ext (H:bN F h ds ag) (e:Ext h ab):bN F ab ds ag:=by
 induction H with
 | nil=>exact .nil
 | i t bb=>exact .i bb
 | b t bb=>exact .b bb
 | s ah t bb=>exact .s ah bb
 | l aC ah aZ hu bk kids av t uu sO=>exact .l aC ah (aZ.ext e) hu bk uu av sO
theorem bN.gR {dQ:aL->Prop} (H:bN F h ds ag) (w:∀b,F b->dQ b):bN dQ h ds ag:=by
 induction H with
 | nil=>exact .nil
 | i t bb=>exact .i bb
 | b t bb=>exact .b bb
 | s ah t bb=>exact .s ah bb
 | l aC ah aZ hu bk kids av t uu sO=>exact .l aC ah aZ hu bk uu (fun b q=>w b (av b q)) sO
theorem bN.bG (H:bN F h ds ag):bN (fun b=>F b/\Old h b) h ds ag:=by
 induction H with
 | nil=>exact .nil
 | i t bb=>exact .i bb
 | b t bb=>exact .b bb
 | s ah t bb=>exact .s ah bb
 | l aC ah aZ hu bk kids av t uu sO=>exact .l aC ah aZ hu bk uu (fun b q=>⟨av b q,aZ.bG q⟩) sO
theorem bN.eY (H:bN F h ds ag):eY ag=true:=by
 induction H with
 | nil=>rfl
 | i t bb=>simpa [Go.Proofs.YtgmhjhgoamjeeaaGreatDoor.aX.eY,V.one] using bb
 | b t bb=>simpa [Go.Proofs.YtgmhjhgoamjeeaaGreatDoor.aX.eY,V.one] using bb
 | s ah t bb=>simpa [Go.Proofs.YtgmhjhgoamjeeaaGreatDoor.aX.eY,V.one] using bb
 | l aC ah aZ hu bk kids av t uu sO=>simp only [Go.Proofs.YtgmhjhgoamjeeaaGreatDoor.aX.eY,aZ.one.1,sO,Bool.and_self]
theorem bN.int {k:IntKind} {n:Int} (H:bN F h (.i k n::ds) ag):∃us,ag=.int k n::us/\bN F h ds us:=by
 cases H with
 | i t=>exact ⟨_,rfl,t⟩
theorem bN.bool {x:Bool} (H:bN F h (.b x::ds) ag):∃us,ag=.bool x::us/\bN F h ds us:=by
 cases H with
 | b t=>exact ⟨_,rfl,t⟩
theorem bN.str {x:List UInt8} (H:bN F h (.s x::ds) ag):∃us,ag=.str x::us/\x.length<=top/\bN F h ds us:=by
 cases H with
 | s ah t=>exact ⟨_,rfl,ah,t⟩
theorem bN.eZ {size:Nat} {es:List (List D)} (H:bN F h (.l size es::ds) ag):∃v us,ag=v::us/\b0 F h size es v/\bN F h ds us:=by
 cases H with
 | l aC ah aZ hu bk kids av t=>exact ⟨_,_,rfl,⟨aC,ah,⟨_,aZ,hu,bk,kids⟩,av⟩,t⟩
theorem bN.no (H:bN F h [] ag):ag=[]:=by cases H;rfl
end
theorem D7 {size:Nat}:∀(us:List (List V)) (i:Nat) (u:List V),(∀u ∈ us,u.length=size)->us[i]? =some u->(us.flatten.drop (i * size)).take size=u
 | [],i,u,_,h=>by simp at h
 | w::us,0,u,aA,h=>by simp only [apK,aps] at h;subst h;rw [arE,aqy,aqH,arG (aA _ (by simp))]
 | w::us,i+1,u,aA,h=>by rw [show (i+1) * size=size+i * size from by rw [arJ,Nat.add_comm],<-aqU,aqH,List.drop_left' (aA _ (by simp))];exact D7 us i u (fun u hu=>aA u (by simp [hu])) (by simpa using h)
theorem x5 {size:Nat}:∀(us:List (List V)),(∀u ∈ us,u.length=size)->us.flatten.length=us.length * size
 | [],_=>by simp
 | w::us,aA=>by rw [aqH,apD,aA w (by simp),x5 us (fun u hu=>aA u (by simp [hu])),apB,arJ,Nat.add_comm]
section
variable {F:aL->Prop} {h ab:ae} {size:Nat} {es:List (List D)} {v:V}
theorem b0.cons {ds:List D} {ag:List V} (H:b0 F h size es v) (t:bN F h ds ag):bN F h (.l size es::ds) (v::ag):=by obtain ⟨us,a,b,c,d⟩:=H.ex;exact .l H.room H.le a b c d H.AO t
theorem b0.ext (H:b0 F h size es v) (e:Ext h ab):b0 F ab size es v:=by obtain ⟨us,a,b,c,d⟩:=H.ex;exact ⟨H.room,H.le,⟨us,a.ext e,b,c,fun i x u ak al=>(d i x u ak al).ext e⟩,H.AO⟩
theorem b0.mod {dQ M:aL->Prop} (m:Mod M h ab) (cJ:∀b,F b->Old h b->¬M b/\dQ b) (H:b0 F h size es v):b0 dQ ab size es v:=by obtain ⟨us,a,b,c,d⟩:=H.ex;exact ⟨H.room,H.le,⟨us,a.mod m fun x q=>(cJ x (H.AO x q) (a.bG q)).1,b,c,fun i x u ak al=>(d i x u ak al).mod m cJ⟩,fun x q=>(cJ x (H.AO x q) (a.bG q)).2⟩
theorem b0.gR {dQ:aL->Prop} (H:b0 F h size es v) (w:∀b,F b->dQ b):b0 dQ h size es v:=by obtain ⟨us,a,b,c,d⟩:=H.ex;exact ⟨H.room,H.le,⟨us,a,b,c,fun i x u ak al=>(d i x u ak al).gR w⟩,fun b q=>w b (H.AO b q)⟩
theorem b0.len (H:b0 F h size es v):hJ v=some (.int .i64 es.length):=by obtain ⟨us,a,_⟩:=H.ex;exact a.len
theorem b0.one (H:b0 F h size es v):v.one=true/\v.cells=[v]/\v.eO=true:=by obtain ⟨us,a,_⟩:=H.ex;exact a.one
theorem b0.nil (F:aL->Prop) (h:ae) (size:Nat):b0 F h size [] .bg:=⟨fun b o l c e=>(by cases e),aqS _,⟨[],⟨by simp,rfl⟩,rfl,fun u hu=>(by cases hu),fun i e u q=>(by simp at q)⟩,fun b q=>q.elim⟩
theorem b0.at (H:b0 F h size es v) {k:IntKind} {i:Nat} (ax:i<es.length):
 ∃b off u,fK size v (.int k i)=some (.ptr b (off+i * size))/\bN F h es[i] u/\u.length=size/\(∀ab,Ext h ab->ml size (ab.get b) (off+i * size)=some (.agg u))/\∀ab,Ext h ab->∀j,j<size->fZ (ab.get b) (off+i * size+j)=u[j]? :=by
 obtain ⟨us,aa,ad,aA,aJ⟩:=H.ex;have sy:i<us.length:=by omega
 have hu:=apr sy;obtain ⟨b,off,aK,aS⟩:=aa.cr (k:=k) ax;have av:=D7 us i _ aA hu;have iK:=x5 us aA;have hle:i * size+size<=us.length * size:=by have:=aqz size (show i+1<=us.length by omega);rw [arJ] at this;exact this
 have R8:us[i].length=size:=aA _ (ap1 sy);refine ⟨b,off,us[i],aK,aJ i _ _ (apr ax) hu,R8,fun ab e=>?_,fun ab e j bp=>?_⟩
 . rw [(aS.ext e).fh (i:=i * size) (n:=size) (by omega),av]
 . rw [aqx,(aS.ext e).dJ (i:=i * size+j) (by omega)];have:((us.flatten.drop (i * size)).take size)[j]? =us[i][j]? :=by rw [av]
   rw [aqs bp,aqJ] at this;rw [<-this,apr (by omega)]
end
def Any (_:aL):Prop:=True
structure Has (h:ae) (n:Nat) (l:List V):Prop where
 lt:n<h.next
 g:h.get (aw n)=.bQ l 0 false
theorem Has.ext {h ab:ae} {n:Nat} {l:List V} (B:Has h n l) (e:Ext h ab):Has ab n l:=⟨arv B.lt e.next,(e.get _ (hv B.lt)).trans B.g⟩
theorem fM (h:ae) (l:List V):∃H,h.new (.bQ l 0 false)=H/\Ext h H/\Has H h.next l:=⟨_,rfl,(Ext.refl h).new _,by rw [f_];omega,qY _⟩
theorem fw (h:ae) (z l:List V):∃H,(h.new (.bQ z 0 false)).set (aw h.next) (.bQ l 0 false)=H/\Ext h H/\Has H h.next l:=
 ⟨_,rfl,((Ext.refl h).new _).set (apv _) _,by rw [nd,f_];omega,by rw [dV,apz rfl]⟩
theorem Has.set {h:ae} {n m:Nat} {l:List V} (B:Has h n l) (hm:n≠m) (k:b1):Has (h.set (aw m) k) n l:=⟨by rw [nd];exact B.lt,by rw [dV,apw (by rw [mr];exact fun q=>hm q.symm)];exact B.g⟩
theorem Has.put {h:ae} {n:Nat} {l:List V} (B:Has h n l) (eS:List V):Has (h.set (aw n) (.bQ eS 0 false)) n eS:=⟨by rw [nd];exact B.lt,by rw [dV,apz rfl]⟩
theorem bN.set {F:aL->Prop} {h:ae} {ds:List D} {ag:List V} (H:bN F h ds ag) {b:aL} (ah:¬F b) (k:b1):bN F (h.set b k) ds ag:=
 H.mod ((Mod.refl (fun x=>x=b) h).set (fun _=>rfl) k) fun x q _=>⟨fun e=>ah (e ▸ q),q⟩
theorem b0.set {F:aL->Prop} {h:ae} {size:Nat} {es:List (List D)} {v:V} (H:b0 F h size es v) {b:aL} (ah:¬F b) (k:b1):b0 F (h.set b k) size es v:=
 H.mod ((Mod.refl (fun x=>x=b) h).set (fun _=>rfl) k) fun x q _=>⟨fun e=>ah (e ▸ q),q⟩
theorem bN.rv {F:aL->Prop} {h:ae} {ds:List D} {ag:List V} (H:bN F h ds ag):bN (Old h) h ds ag:=H.bG.gR fun _ q=>q.2
theorem b0.rv {F:aL->Prop} {h:ae} {size:Nat} {es:List (List D)} {v:V} (H:b0 F h size es v):b0 (Old h) h size es v:=by obtain ⟨us,a,b,c,d⟩:=H.ex;exact ⟨H.room,H.le,⟨us,a,b,c,fun i x u ak al=>(d i x u ak al).rv⟩,fun b q=>a.bG q⟩
theorem y0 {h:ae} {n:Nat} (aV:h.next<=n):¬Old h (aw n):=fun q=>by unfold Old at q;rw [c1] at q;omega
theorem h8 {i n:Nat} (h:i<n) (aV:n<=4611686018427387904):IntKind.i64.wrap ((i:Int)+1)=((i+1:Nat):Int):=by rw [wrap_i64 (by omega) (by omega)];rfl
def gb (i:Int):List D:=[.i .i64 i]
theorem b0.E_ {F:aL->Prop} {h:ae} {l:List Int} {v:V} (H:b0 F h 1 (l.map gb) v) {k:IntKind} {i:Nat} (ax:i<l.length):
 ∃b off,fK 1 v (.int k i)=some (.ptr b (off+i * 1))/\∀ab,Ext h ab->fZ (ab.get b) (off+i * 1)=some (.int .i64 l[i]):=by
 obtain ⟨b,off,u,aK,aS,bU,_,b9⟩:=H.at (k:=k) (i:=i) (by rw [apG];exact ax);rw [aq4,gb] at aS;obtain ⟨us,rfl,dP⟩:=bN.int aS;obtain rfl:=dP.no;exact ⟨b,off,aK,fun ab e=>by simpa using b9 ab e 0 (by omega)⟩
end
section
open Go Go.RowKit
variable [Lay]
def kU (n:Nat) (b:aL):aL:=aw (n+bX b)
mutual
def V.c7 (n:Nat):V->V
 | .ptr b o=>.ptr (kU n b) o
 | .slice b o l c=>.slice (kU n b) o l c
 | .eh b o l c=>.eh (kU n b) o l c
 | .gI b o l c=>.gI (kU n b) o l c
 | .map b=>.map (kU n b)
 | .func f cs=>.func f (kT n cs)
 | .lN f cs=>.lN f (kT n cs)
 | .iface t v=>.iface t (v.c7 n)
 | .agg cs=>.agg (kT n cs)
 | .tuple cs=>.tuple (kT n cs)
 | .bad=>.bad | .bool b=>.bool b | .int k i=>.int k i | .str s=>.str s | .kb=>.kb | .bg=>.bg | .jM=>.jM | .kJ=>.kJ | .nilIface=>.nilIface
def kT (n:Nat):List V->List V
 | []=>[]
 | v::ag=>v.c7 n::kT n ag
end
theorem U4 (n:Nat):∀l:List V,kT n l=l.map (V.c7 n)
 | []=>by simp [kT]
 | v::l=>by rw [kT,U4 n l,aqu]
def b3.c7 (n:Nat) (m:b3):b3:=⟨m.k.c7 n,m.v.c7 n,m.born⟩
def b1.c7 (n:Nat):b1->b1
 | .cells m cs cH st=>.bQ ((hn cs 0 m).map (V.c7 n)) cH st
 | .iter s pos=>.iter s pos
 | .mp es clock=>.mp (es.map (b3.c7 n)) clock
 | .ht es=>.ht (es.map (b3.c7 n))
 | _=>.dead
def ae.qJ (h ao:ae):Nat->ae
 | 0=>h
 | k+1=>(h.qJ ao k).new ((ao.get (aw k)).c7 h.next)
theorem xJ (h ao:ae):∀k,(h.qJ ao k).next=h.next+k
 | 0=>rfl
 | k+1=>by rw [ae.qJ,f_,xJ h ao k];omega
theorem Nf (h ao:ae):∀k,Ext h (h.qJ ao k)
 | 0=>Ext.refl h
 | k+1=>(Nf h ao k).new _
theorem Hv (h ao:ae):∀(k i:Nat),i<k->(h.qJ ao k).get (aw (h.next+i))=(ao.get (aw i)).c7 h.next
 | 0,i,ax=>absurd ax (by omega)
 | k+1,i,ax=>by
   rw [ae.qJ,hV,xJ];by_cases e:i=k
   . subst e;rw [apz rfl]
   . rw [apw (fun q=>e (by have:=hN q;omega)),Hv h ao k i (by omega)]
theorem Ng (h ao:ae) (b:aL):∀(k:Nat),(bX b<h.next\/h.next+k<=bX b)->(h.qJ ao k).get b=h.get b
 | 0,_=>rfl
 | k+1,ah=>by rw [ae.qJ,hV,xJ,apw (fun q=>by subst q;rw [c1] at ah;omega)];exact Ng h ao b k (by omega)
def ae.app (h ao:ae):ae:=h.qJ ao ao.next
def ov (h ao:ae) (E bA:Env):Env:=fun b=>if h.next<=bX b/\bX b<h.next+ao.next then bA (aw (bX b-h.next)) else E b
section
variable {ay:Fr} {E bA:Env} {h ao:ae} {w bx:World}
theorem Hu (s:a8 ay E h w):E.le (ov h ao E bA):=fun b p q=>by
 unfold ov;rw [apw]
 . exact q
 . rintro ⟨aa,_⟩;have:=s.fresh (bX b) aa;rw [uL] at this;rw [this] at q;cases q
theorem r7 (s2:a8 ⟨w,fun _=>none⟩ bA ao bx) {b:aL} {p:jb} (q:bA b=some p):ov h ao E bA (kU h.next b)=some p:=by
 unfold ov kU;have aR:bX b<ao.next:=by
  rcases aqI (bX b) ao.next with al | al
  . exact al
  . have:=s2.fresh _ al;rw [uL,q] at this;cases this
 rw [c1,apz ⟨by omega,by omega⟩,show h.next+bX b-h.next=bX b from by omega,uL];exact q
mutual
theorem s' (s2:a8 ⟨w,fun _=>none⟩ bA ao bx):∀(v:V) (x:Value),Rel bA v x->Rel (ov h ao E bA) (v.c7 h.next) x
 | .bad,x,q=>by simp only [V.c7,Rel]
 | .bool _,x,q=>by simpa only [V.c7,Rel] using q
 | .int _ _,x,q=>by simpa only [V.c7,Rel] using q
 | .str _,x,q=>by simpa only [V.c7,Rel] using q
 | .kb,x,q=>by simpa only [V.c7,Rel] using q
 | .bg,x,q=>by simpa only [V.c7,Rel] using q
 | .jM,x,q=>by simpa only [V.c7,Rel] using q
 | .kJ,x,q=>by simpa only [V.c7,Rel] using q
 | .nilIface,x,q=>by simpa only [V.c7,Rel] using q
 | .ptr b o,x,q=>by simp only [V.c7,Rel] at q ⊢;obtain ⟨p,ak,al⟩:=q;exact ⟨p,r7 s2 ak,al⟩
 | .slice b o l c,x,q=>by simp only [V.c7,Rel] at q ⊢;obtain ⟨p,ak,al⟩:=q;exact ⟨p,r7 s2 ak,al⟩
 | .eh b o l c,x,q=>by simp only [V.c7,Rel] at q ⊢;obtain ⟨p,ak,al⟩:=q;exact ⟨p,r7 s2 ak,al⟩
 | .gI b o l c,x,q=>by simpa only [V.c7,Rel] using q
 | .map b,x,q=>by simp only [V.c7,Rel] at q ⊢;obtain ⟨p,ak,al⟩:=q;exact ⟨p,r7 s2 ak,al⟩
 | .func f cs,x,q=>by
   simp only [V.c7,Rel] at q ⊢;rcases q with ⟨ak,a,al,aI⟩ | ⟨ak,b,p,rfl,aI,bB⟩
   . exact .inl ⟨ak,a,al,Cn s2 cs _ aI⟩
   . exact .inr ⟨ak,kU h.next b,p,by simp only [kT,V.c7],r7 s2 aI,bB⟩
 | .lN f cs,x,q=>by simp only [V.c7,Rel] at q ⊢;obtain ⟨ak,a,al,aI⟩:=q;exact ⟨ak,a,al,Cn s2 cs _ aI⟩
 | .iface t v,x,q=>by simp only [V.c7,Rel] at q ⊢;obtain ⟨y,ak,al⟩:=q;exact ⟨y,ak,s' s2 v y al⟩
 | .agg cs,x,q=>by simp only [V.c7,Rel] at q ⊢;obtain ⟨a,ak,al⟩:=q;exact ⟨a,ak,Cn s2 cs _ al⟩
 | .tuple cs,x,q=>by simp only [V.c7,Rel] at q ⊢;obtain ⟨a,ak,al⟩:=q;exact ⟨a,ak,Cn s2 cs _ al⟩
theorem Cn (s2:a8 ⟨w,fun _=>none⟩ bA ao bx):∀(v:List V) (x:List Value),bf bA v x->bf (ov h ao E bA) (kT h.next v) x
 | [],x,q=>by simpa only [kT,bf] using q
 | v::ag,x,q=>by simp only [kT,bf] at q ⊢;obtain ⟨y,cp,ak,al,aI⟩:=q;exact ⟨y,cp,ak,s' s2 v y al,Cn s2 ag cp aI⟩
end
theorem Tp (s2:a8 ⟨w,fun _=>none⟩ bA ao bx):∀(v:List b3) (x:List MapEntry),dm bA v x->dm (ov h ao E bA) (v.map (b3.c7 h.next)) x
 | [],x,q=>by simpa only [List.map_nil,dm] using q
 | v::ag,x,q=>by simp only [aqu,dm,b3.c7] at q ⊢;obtain ⟨y,cp,ak,al,aI,bB,cG⟩:=q;exact ⟨y,cp,ak,s' s2 _ _ al,s' s2 _ _ aI,bB,Tp s2 ag cp cG⟩
theorem VK (s2:a8 ⟨w,fun _=>none⟩ bA ao bx):∀(v:List b3) (x:List MapEntry),ix bA v x->ix (ov h ao E bA) (v.map (b3.c7 h.next)) x
 | [],x,q=>by simpa only [List.map_nil,ix] using q
 | v::ag,x,q=>by simp only [aqu,ix,b3.c7] at q ⊢;obtain ⟨y,cp,ak,al,aI,cG⟩:=q;exact ⟨y,cp,ak,s' s2 _ _ al,s' s2 _ _ aI,VK s2 ag cp cG⟩
theorem Ed (cs:T V):∀(n off i:Nat),i<n->(hn cs off n)[i]? =some (T.get .bad (aw (off+i)) cs)
 | 0,_,i,ax=>absurd ax (by omega)
 | n+1,off,0,_=>by simp [hn]
 | n+1,off,i+1,ax=>by rw [hn,aqr,Ed cs n (off+1) i (by omega)];congr 3;omega
theorem Ym (hw:ay.w.heap.size<=w.heap.size) (s2:a8 ⟨w,fun _=>none⟩ bA ao bx) {b:aL} {k:b1} (H:fv w.heap.size bA bx b k):fv ay.w.heap.size (ov h ao E bA) bx (kU h.next b) (k.c7 h.next):=by
 cases k with
 | cells n cs cH st=>
   obtain ⟨aV,p,c,el,bZ,aa,ad,aJ,bu,cV,fX,hX⟩:=H;have aA:((hn cs 0 n).map (V.c7 h.next)).length=n:=by rw [apG,vF]
   refine ⟨by rw [aA];exact aV,p,c,el,bZ,r7 s2 aa,aqo hw ad,aJ,bu,cV,fX,by rw [aA];exact hX.1,fun i y ax a6=>?_⟩;rw [aA] at ax;have:=Ec ((hn cs 0 n).map (V.c7 h.next)) 0 i .e;rw [apW,apz (by rw [aA];exact ax),aqi,Ed cs n 0 i ax] at this;rw [this];simp only [aqV,apX,apW];exact s' s2 _ _ (hX.2 i y ax a6)
 | iter st pos=>
   obtain ⟨p,aa,ad,aJ⟩:=H;exact ⟨p,r7 s2 aa,aqo hw ad,aJ⟩
 | mp es clock=>
   obtain ⟨p,a,aa,ad,aJ,bu⟩:=H;exact ⟨p,a,r7 s2 aa,aqo hw ad,aJ,Tp s2 _ _ bu⟩
 | ht es=>
   obtain ⟨p,a,c,l,aa,ad,aJ,bu,cV⟩:=H;exact ⟨p,a,c,l,r7 s2 aa,aqo hw ad,aJ,VK s2 _ _ bu,cV⟩
 | _=>trivial
theorem FP {k:b1} {n:Nat} (H:(k.c7 n).own=true):k.own=true:=by cases k<;>simp_all [b1.c7,b1.own]
theorem T1 {B:Nat} {b:aL} {k:b1} {p:jb} (H:fv B E w b k) (aU:k.own=true) (q:E b=some p):B<=p.aW/\p.aW<w.heap.size:=by
 have lt:∀{o:Obj},w.heap[p.aW]? =some o->p.aW<w.heap.size:=fun {o} q=>by
  rcases aqI p.aW w.heap.size with al | al
  . exact al
  . rw [ara al] at q;cases q
 cases k with
 | cells n cs cH st=>
   obtain ⟨_,p',c,el,bZ,aa,ad,aJ,_⟩:=H;rw [q] at aa;cases aa;exact ⟨ad,lt aJ⟩
 | iter st pos=>
   obtain ⟨p',aa,ad,_,aJ⟩:=H;rw [q] at aa;cases aa;exact ⟨ad,lt aJ⟩
 | mp es clock=>
   obtain ⟨p',a,aa,ad,aJ,_⟩:=H;rw [q] at aa;cases aa;exact ⟨ad,lt aJ⟩
 | ht es=>
   obtain ⟨p',a,c,l,aa,ad,aJ,_⟩:=H;rw [q] at aa;cases aa;exact ⟨ad,lt aJ⟩
 | fi l=>
   obtain ⟨p',o,aa,ad,aJ,_⟩:=H;rw [q] at aa;cases aa;exact ⟨ad,lt aJ⟩
 | hj=>
   obtain ⟨p',aa,ad,aJ⟩:=H;rw [q] at aa;cases aa;exact ⟨ad,lt aJ⟩
 | gD src since seen last=>
   obtain ⟨p',m,a,aa,ad,_,aJ,_⟩:=H;rw [q] at aa;cases aa;exact ⟨ad,lt aJ⟩
 | dead=>cases aU
 | view n cs=>cases aU
theorem U5 (s:a8 ay E h w) (s2:a8 ⟨w,fun _=>none⟩ bA ao bx):a8 ay (ov h ao E bA) (h.app ao) bx:=by
 have U0:=s.below s2.frame;have hw:ay.w.heap.size<=w.heap.size:=s.frame.size;have cs:∀b,(h.next<=bX b/\bX b<h.next+ao.next/\∃i,i<ao.next/\b=kU h.next (aw i)/\(h.app ao).get b=(ao.get (aw i)).c7 h.next/\ov h ao E bA b=bA (aw i))\/
  ((bX b<h.next\/h.next+ao.next<=bX b)/\(h.app ao).get b=h.get b/\ov h ao E bA b=E b):=fun b=>by
  by_cases q:h.next<=bX b/\bX b<h.next+ao.next
  . refine .inl ⟨q.1,q.2,bX b-h.next,by omega,?_,?_,apz q⟩
    . unfold kU;rw [c1,show h.next + (bX b-h.next)=bX b from by omega,uL]
    . have:=Hv h ao ao.next (bX b-h.next) (by omega)
      rw [show h.next + (bX b-h.next)=bX b from by omega,uL] at this;exact this
  . exact .inr ⟨by omega,Ng h ao b _ (by omega),apw q⟩
 have TQ:∀b p,(h.get b).own=true->E b=some p->p.aW<w.heap.size:=fun b p aU q=>by have ah:fv ay.w.heap.size E w b (h.get b):=s.at q;exact (T1 ah aU q).2
 have Tw:∀i p,(ao.get (aw i)).own=true->bA (aw i)=some p->w.heap.size<=p.aW:=fun i p aU q=>(T1 (s2.aW _ rfl) aU q).1;refine ⟨fun b ah=>?_,fun b k aB=>?_,fun b bL p p' cX ck aK aS af=>?_,fun i ax=>?_,U0.frame,s.laid,fun b p n c st aG he=>?_⟩
 . rcases cs b with ⟨_,_,i,ax,rfl,aK,aS⟩ | ⟨_,aK,aS⟩
   . rw [aK];exact Ym hw s2 (s2.aW _ rfl)
   . rw [aK];exact (U0.aW b ah).mono (Hu s)
 . obtain ⟨ak,al,i,ax,rfl⟩:=s.n5 b k aB;rcases cs (aw i) with ⟨bK,_⟩ | ⟨_,aK,aS⟩
   . rw [c1] at bK;omega
   . refine ⟨aK.trans ak,aS.trans al,i,?_,rfl⟩;show i < (h.qJ ao ao.next).next
     rw [xJ];omega
 . rcases cs b with ⟨_,_,i,ax,rfl,g1,g2⟩ | ⟨_,g1,g2⟩<;>rcases cs bL with ⟨_,_,j,bp,rfl,g3,g4⟩ | ⟨_,g3,g4⟩
   . rw [g1] at cX;rw [g3] at ck;rw [g2] at aK;rw [g4] at aS;rw [s2.inj _ _ _ _ (FP cX) (FP ck) aK aS af]
   . rw [g1] at cX;rw [g3] at ck;rw [g2] at aK;rw [g4] at aS;have a:=Tw _ _ (FP cX) aK;have b:=TQ _ _ ck aS;omega
   . rw [g1] at cX;rw [g3] at ck;rw [g2] at aK;rw [g4] at aS;have a:=Tw _ _ (FP ck) aS;have b:=TQ _ _ cX aK;omega
   . rw [g1] at cX;rw [g3] at ck;rw [g2] at aK;rw [g4] at aS;exact s.inj _ _ _ _ cX ck aK aS af
 . have aV:(h.app ao).next=h.next+ao.next:=xJ h ao ao.next
   rw [aV] at ax;rcases cs (aw i) with ⟨bK,bR,_⟩ | ⟨_,aK,aS⟩
   . rw [c1] at bR;omega
   . rw [aS];exact s.fresh i (by omega)
 . rcases cs b with ⟨_,_,i,ax,rfl,g1,g2⟩ | ⟨_,g1,g2⟩
   . rw [g2] at he;cases aB:ao.get (aw i) with
     | cells uF fD anX iY=>
       rw [g1,aB] at aG;simp only [b1.c7,b1.bQ,b1.cells.injEq] at aG;obtain ⟨_,_,q,_⟩:=aG;subst q;exact s2.base _ _ _ _ _ aB he
     | _=>rw [g1,aB] at aG;simp [b1.c7] at aG
   . rw [g1] at aG;rw [g2] at he;exact s.base _ _ _ _ _ aG he
end
theorem Z2 {C:Ctx} (cJ:C.P.follows .mixedOrders=true) (bE:ec C.P) (gx:pk C) {n:Nat} {f:FuncId} {ao:ae} {v:V} (av:Nat.beq f dr=false) (aj:C.ext f=none) (ho:∃fn,C.P.funcs[f]? =some fn/\fn.body.isSome=true)
 (he:sd C n f [] ae.empty=.val v ao) (h:ae):eV C.P f [] h (v.c7 h.next) (h.app ao):=by
 refine ⟨fun e=>by subst e;simp at av,.inl ⟨ho,fun ay E w xs aA s=>?_⟩⟩;simp only [bf] at aA;subst aA;obtain ⟨_,fJ⟩:=HV cJ bE gx av aj he (ay:=⟨w,fun _=>none⟩) (E:=fun _=>none) (w:=w) (xs:=[]) rfl (Gp w (Lay.eR s.laid s.frame));refine fJ.mono fun e w' az=>?_;obtain ⟨ar,x,rfl,_,al,aI⟩:=az;exact ⟨_,x,rfl,Hu s,s' aI _ _ al,U5 s aI⟩
theorem XQ (h ao:ae):Ext h (h.app ao):=Nf h ao _
theorem Nh (h ao:ae) {i:Nat} (ax:i<ao.next):(h.app ao).get (aw (h.next+i))=(ao.get (aw i)).c7 h.next:=Hv h ao _ i ax
theorem Ni (h ao:ae):(h.app ao).next=h.next+ao.next:=xJ h ao _
end
section
open Go Go.RowKit
variable [Lay]
def Kh:IntKind->IntKind->Bool
 | .i8,.i8 | .i16,.i16 | .i32,.i32 | .i64,.i64 | .u8,.u8 | .u16,.u16 | .u32,.u32 | .u64,.u64=>true
 | _,_=>false
theorem Sx {a b:IntKind} (h:Kh a b=true):a=b:=by cases a<;>cases b<;>first | rfl | cases h
def uq:Int->Int->Bool
 | .ofNat a,.ofNat b=>Nat.beq a b
 | .negSucc a,.negSucc b=>Nat.beq a b
 | _,_=>false
theorem E3 {a b:Int} (h:uq a b=true):a=b:=by cases a<;>cases b<;>simp only [uq] at h<;>first | (rw [aqg h]) | (cases h)
def Nu:Bool->Bool->Bool
 | true,true | false,false=>true
 | _,_=>false
theorem Yb {a b:Bool} (h:Nu a b=true):a=b:=by cases a<;>cases b<;>first | rfl | cases h
def Gn:List UInt8->List UInt8->Bool
 | [],[]=>true
 | a::Ns,b::e4=>Nat.beq a.toNat b.toNat&&Gn Ns e4
 | _,_=>false
theorem UZ:∀{a b:List UInt8},Gn a b=true->a=b
 | [],[],_=>rfl
 | [],_::_,h=>by cases h
 | _::_,[],h=>by cases h
 | a::Ns,b::e4,h=>by simp only [Gn,apq] at h;rw [UZ h.2,arw.1 (aqg h.1)]
def FG (l2:List D->List V->Bool) (size:Nat):List (List D)->List V->Bool
 | [],oG=>(match oG with | []=>true | _=>false)
 | e::es,oG=>Nat.beq (oG.take size).length size&&l2 e (oG.take size)&&FG l2 size es (oG.drop size)
def K2 (ao:ae) (l2:List D->List V->Bool) (size:Nat) (es:List (List D)):V->Bool
 | .bg=>(match es with | []=>true | _=>false)
 | .slice b off len cap=>Nat.beq len es.length&&Nat.ble len cap&&Nat.ble len top&&Nat.blt (bX b) ao.next&&(match ao.get b with
   | .cells n cs _ _=>Nat.ble (off+len * size) n&&FG l2 size es (hn cs off (len * size))
   | _=>false)
 | _=>false
def iP (ao:ae):Nat->List D->List V->Bool
 | 0,_,_=>false
 | f+1,ds,ag=>match ds with
   | []=>(match ag with | []=>true | _=>false)
   | d::ds=>match ag with
     | []=>false
     | v::ag=>(match d with
       | .i k n=>(match v with | .int br uF=>Kh k br&&uq n uF | _=>false)
       | .b x=>(match v with | .bool y=>Nu x y | _=>false)
       | .s x=>(match v with | .str y=>Gn x y&&Nat.ble x.length top | _=>false)
       | .l size es=>K2 ao (iP ao f) size es v)&&iP ao f ds ag
section
variable {h ao:ae}
def uG (h ao:ae) (b:aL):Prop:=h.next<=bX b/\bX b<h.next+ao.next
theorem TL {l2:List D->List V->Bool} {size:Nat}:∀{es:List (List D)} {oG:List V},FG l2 size es oG=true->
 ∃us:List (List V),oG=us.flatten/\us.length=es.length/\(∀u ∈ us,u.length=size)/\∀(i:Nat) (e:List D) (u:List V),es[i]? =some e->us[i]? =some u->l2 e u=true
 | [],oG,H=>by
   cases oG with
   | nil=>exact ⟨[],rfl,rfl,fun u q=>(by cases q),fun i e u q=>(by simp at q)⟩
   | cons _ _=>cases H
 | e::es,oG,H=>by
   simp only [FG,apq] at H;obtain ⟨us,ak,al,aI,bB⟩:=TL H.2;refine ⟨oG.take size::us,by rw [aqH,<-ak,aq2],by simp [al],fun u hu=>?_,fun i x u aK aS=>?_⟩
   . rcases apJ.1 hu with rfl | hu
     . exact aqg H.1.1
     . exact aI u hu
   . cases i with
     | zero=>
       simp only [apK,aps] at aK aS;subst aK aS;exact H.1.2
     | succ i=>exact bB i x u (by simpa using aK) (by simpa using aS)
theorem ace (cs:T V) (n off m:Nat) (hm:off+m<=n):((hn cs 0 n).drop off).take m=hn cs off m:=by
 apply arz;intro i;by_cases ax:i<m
 . rw [aqs ax,aqJ,Ed cs n 0 _ (by omega),Ed cs m off i ax,apW]
 . rw [apT (by rw [ap4,aqa,vF];omega),apT (by rw [vF];omega)]
theorem ajI {l2:List D->List V->Bool} (aB:∀ds ag,l2 ds ag=true->bN (uG h ao) (h.app ao) ds (kT h.next ag)) {size:Nat} {es:List (List D)} {v:V} (H:K2 ao l2 size es v=true):
 b0 (uG h ao) (h.app ao) size es (v.c7 h.next):=by
 cases v<;>simp only [K2] at H<;>try (cases H;done)
 case bg=>
  cases es with
  | nil=>exact b0.nil _ _ _
  | cons _ _=>cases H
 case slice b off len cap=>
  simp only [apq] at H;obtain ⟨⟨⟨⟨aa,ad⟩,aJ⟩,bu⟩,cV⟩:=H;have aa:=aqg aa;have ad:=ap5 ad;have aJ:=ap5 aJ;have bu:bX b<ao.next:=ap5 bu
  cases aG:ao.get b<;>rw [aG] at cV<;>simp only at cV<;>try (cases cV;done)
  rename_i n cs cH st;simp only [apq] at cV;have fX:=ap5 cV.1;obtain ⟨us,ak,al,aI,bB⟩:=TL cV.2;subst aa;have sx:(h.app ao).get (kU h.next b)=.bQ ((hn cs 0 n).map (V.c7 h.next)) cH st:=by have:=Nh h ao bu;rw [uL,aG] at this;exact this
  have iK:(us.map (List.map (V.c7 h.next))).flatten=us.flatten.map (V.c7 h.next):=by rw [List.map_flatten]
  have hlen:us.flatten.length=es.length * size:=by rw [<-ak,vF]
  refine ⟨fun bL o l c e=>(by cases e;exact ad),aJ,⟨us.map (List.map (V.c7 h.next)),⟨by rw [iK,apG,hlen],rfl,?_,_,.inr ⟨cH,st,sx⟩,?_,?_⟩,by rw [apG,al],fun u hu=>?_,fun i e u aK aS=>?_⟩,fun bL q=>?_⟩
  . unfold Old kU;rw [c1,Ni];omega
  . rw [iK,apG,apG,vF,hlen];exact fX
  . rw [iK,apG,hlen,<-List.map_drop,<-List.map_take,ace cs n off _ fX,ak]
  . obtain ⟨fu,gN,rfl⟩:=List.mem_map.1 hu;rw [apG];exact aI fu gN
  . rw [aqi] at aS;cases az:us[i]? with
    | none=>rw [az] at aS;cases aS
    | some fu=>
      rw [az] at aS;simp only [aqV,aps] at aS;subst aS;rw [<-U4];exact aB _ _ (bB i e fu aK az)
  . simp only [V.c7,V.aW] at q;subst q;unfold uG kU;rw [c1];exact ⟨by omega,by omega⟩
theorem K0:∀{f:Nat} {ds:List D} {ag:List V},iP ao f ds ag=true->bN (uG h ao) (h.app ao) ds (kT h.next ag)
 | 0,_,_,H=>by cases H
 | f+1,ds,ag,H=>by
   cases ds with
   | nil=>
     cases ag with
     | nil=>exact .nil
     | cons _ _=>cases H
   | cons d ds=>
     cases ag with
     | nil=>cases H
     | cons v ag=>
       simp only [iP,apq] at H;have t:=K0 (f:=f) H.2;have H1:=H.1;rw [kT];cases d with
       | i k n=>
         cases v<;>simp only at H1<;>try (cases H1;done)
         simp only [apq] at H1;rw [Sx H1.1,E3 H1.2];simp only [V.c7];exact .i t
       | b x=>
         cases v<;>simp only at H1<;>try (cases H1;done)
         rw [Yb H1];simp only [V.c7];exact .b t
       | s x=>
         cases v<;>simp only at H1<;>try (cases H1;done)
         simp only [apq] at H1;rw [<-UZ H1.1];simp only [V.c7];exact .s (ap5 H1.2) t
       | l size es=>exact (ajI (fun ds ag q=>K0 (f:=f) q) H1).cons t
end
def nc (k:Int):List (Int × List D)->Option (List D)
 | []=>none
 | (n,d)::l=>if k=n then some d else nc k l
inductive lY (F:aL->Prop) (h:ae):List (Int × List D)->List b3->Prop
 | nil:lY F h [] []
 | cons {n:Int} {ds:List D} {y:V} {born:Nat} {aN:List (Int × List D)} {es:List b3} (aH:bN F h ds y.cells) (t:lY F h aN es):lY F h ((n,ds)::aN) (⟨.int .i64 n,y,born⟩::es)
structure oj (F:aL->Prop) (h:ae) (aN:List (Int × List D)) (v:V):Prop where
 ex:∃b es,v=.map b/\Old h b/\((∃clock,h.get b=.mp es clock)\/h.get b=.ht es/\(aN.map Prod.fst).Nodup)/\lY F h aN es/\F b
section
variable {F:aL->Prop} {h ab:ae} {aN:List (Int × List D)} {es:List b3} {v:V}
theorem lY.ext (H:lY F h aN es) (e:Ext h ab):lY F ab aN es:=by
 induction H with
 | nil=>exact .nil
 | cons aH t bb=>exact .cons (aH.ext e) bb
theorem oj.ext (H:oj F h aN v) (e:Ext h ab):oj F ab aN v:=by obtain ⟨b,es,ak,al,aI,bB,cG⟩:=H.ex;exact ⟨b,es,ak,e.bG al,by rw [e.get b al];exact aI,bB.ext e,cG⟩
theorem Gk (k n:Int):j1.run (.int .i64 k) (.int .i64 n)=some (decide (k=n)):=by simp only [j1,V.ej,oC,apu,DT]
theorem lY.j2 (H:lY F h aN es) (k:Int):(nc k aN=none/\j2 j1 (.int .i64 k) es=some none)\/∃ds y,nc k aN=some ds/\bN F h ds y.cells/\Go.Proofs.YtgmhjhgoamjeeaaGreatDoor.aX.j2 j1 (.int .i64 k) es=some (some y):=by
 induction H with
 | nil=>exact .inl ⟨rfl,rfl⟩
 | @cons n ds y born aN es aH t bb=>
   simp only [nc,Go.Proofs.YtgmhjhgoamjeeaaGreatDoor.aX.j2,Gk];by_cases q:k=n
   . subst q;simp only [ap3,aq3,apu];exact .inr ⟨ds,y,rfl,aH,rfl⟩
   . simp only [q,ap9,aq8,apA];exact bb
theorem Th {k:Int} {ds:List D}:∀{aN:List (Int × List D)},nc k aN=some ds->k ∈ aN.map Prod.fst
 | [],h=>by cases h
 | (n,d)::l,h=>by
   simp only [nc] at h;by_cases q:k=n
   . subst q;simp
   . rw [apw q] at h;simp only [aqu,apJ];exact .inr (Th h)
theorem lY.mN (H:lY F h aN es) (aV:(aN.map Prod.fst).Nodup) (k:Int):(nc k aN=none/\mN j1 (.int .i64 k) es=some none)\/∃ds y,nc k aN=some ds/\bN F h ds y.cells/\Go.Proofs.YtgmhjhgoamjeeaaGreatDoor.aX.mN j1 (.int .i64 k) es=some (some y):=by
 induction H with
 | nil=>exact .inl ⟨rfl,rfl⟩
 | @cons n ds y born aN es aH t bb=>
   simp only [aqu,aro] at aV;have bb:=bb aV.2;simp only [nc,Go.Proofs.YtgmhjhgoamjeeaaGreatDoor.aX.mN,Gk];by_cases q:k=n
   . subst q;rcases bb with ⟨_,e⟩ | ⟨_,_,e,_⟩
     . simp only [e,ap3,aq3,apu];exact .inr ⟨ds,y,rfl,aH,rfl⟩
     . exact absurd (Th e) aV.1
   . rcases bb with ⟨aK,e⟩ | ⟨l3,tq,aK,aS,e⟩
     . simp only [e,q,ap9,aq8,apA];exact .inl ⟨aK,trivial⟩
     . simp only [e,q,ap9,aq8,apA];exact .inr ⟨l3,tq,aK,aS,rfl⟩
theorem oj.look (H:oj F h aN v) (k:Int) (z:V) (ok:Bool):(nc k aN=none/\gk j1 z ok h v (.int .i64 k)=some (bif ok then .tuple [z,.bool false] else z))\/
 ∃ds y,nc k aN=some ds/\bN F h ds y.cells/\gk j1 z ok h v (.int .i64 k)=some (bif ok then .tuple [y,.bool true] else y):=by
 obtain ⟨b,es,rfl,_,aI,bB,_⟩:=H.ex;rcases aI with ⟨clock,aI⟩ | ⟨aI,aV⟩
 . rcases bB.j2 k with ⟨aK,e⟩ | ⟨ds,y,aK,aS,e⟩
   . exact .inl ⟨aK,by simp only [gk,aI,ha,qa,b1.hx,e]⟩
   . exact .inr ⟨ds,y,aK,aS,by simp only [gk,aI,ha,qa,b1.hx,e]⟩
 . rcases bB.mN aV k with ⟨aK,e⟩ | ⟨ds,y,aK,aS,e⟩
   . exact .inl ⟨aK,by simp only [gk,aI,e]⟩
   . exact .inr ⟨ds,y,aK,aS,by simp only [gk,aI,e]⟩
end
def B7 (ao:ae) (f:Nat):List (Int × List D)->List b3->Bool
 | [],es=>(match es with | []=>true | _=>false)
 | (n,ds)::aN,es=>(match es with
   | []=>false
   | m::es=>(match m.k with | .int k i=>Kh k .i64&&uq i n | _=>false)&&iP ao f ds m.v.cells&&B7 ao f aN es)
def FC:List Int->Bool
 | []=>true
 | n::l=>(l.all fun m=>!uq n m)&&FC l
def FI (ao:ae) (f:Nat) (aN:List (Int × List D)):V->Bool
 | .map b=>Nat.blt (bX b) ao.next&&FC (aN.map Prod.fst)&&(match ao.get b with
   | .mp es _=>B7 ao f aN es
   | .ht es=>B7 ao f aN es
   | _=>false)
 | _=>false
theorem afd:∀n:Int,uq n n=true
 | .ofNat a=>ari a
 | .negSucc a=>ari a
theorem TA:∀{l:List Int},FC l=true->l.Nodup
 | [],_=>List.nodup_nil
 | n::l,h=>by simp only [FC,apq] at h;refine aro.2 ⟨fun q=>?_,TA h.2⟩;have:=apU.1 h.1 n q;rw [afd] at this;cases this
theorem ZP (n:Nat) (v:V):(v.c7 n).cells=kT n v.cells:=by cases v<;>simp only [V.c7,V.cells,kT]
section
variable {h ao:ae}
theorem K1 {f:Nat}:∀{aN:List (Int × List D)} {es:List b3},B7 ao f aN es=true->lY (uG h ao) (h.app ao) aN (es.map (b3.c7 h.next))
 | [],es,H=>by
   cases es with
   | nil=>exact .nil
   | cons _ _=>cases H
 | (n,ds)::aN,es,H=>by
   cases es with
   | nil=>cases H
   | cons m es=>
     simp only [B7,apq] at H;obtain ⟨⟨aa,ad⟩,aJ⟩:=H;obtain ⟨mk,cM,born⟩:=m;cases mk<;>simp only at aa<;>try (cases aa;done)
     simp only [apq] at aa;rw [Sx aa.1,E3 aa.2,aqu];simp only [b3.c7,V.c7];exact .cons (by rw [ZP];exact K0 ad) (K1 aJ)
theorem ajH {f:Nat} {aN:List (Int × List D)} {v:V} (H:FI ao f aN v=true):oj (uG h ao) (h.app ao) aN (v.c7 h.next):=by
 cases v<;>simp only [FI] at H<;>try (cases H;done)
 rename_i b;simp only [apq] at H;obtain ⟨⟨aa,ad⟩,aJ⟩:=H;have aa:bX b<ao.next:=ap5 aa
 have aG:=Nh h ao aa;rw [uL] at aG;have ah:uG h ao (kU h.next b):=by unfold uG kU;rw [c1];exact ⟨by omega,by omega⟩
 have aU:Old (h.app ao) (kU h.next b):=by unfold Old kU;rw [c1,Ni];omega
 cases aB:ao.get b<;>rw [aB] at aJ<;>simp only at aJ<;>try (cases aJ;done)
 . rw [aB] at aG;exact ⟨_,_,rfl,aU,.inl ⟨_,aG⟩,K1 aJ,ah⟩
 . rw [aB] at aG;exact ⟨_,_,rfl,aU,.inr ⟨aG,TA ad⟩,K1 aJ,ah⟩
end
theorem lY.gR {F dQ:aL->Prop} {h:ae} {aN:List (Int × List D)} {es:List b3} (H:lY F h aN es) (w:∀b,F b->dQ b):lY dQ h aN es:=by
 induction H with
 | nil=>exact .nil
 | cons aH t bb=>exact .cons (aH.gR w) bb
theorem oj.gR {F dQ:aL->Prop} {h:ae} {aN:List (Int × List D)} {v:V} (H:oj F h aN v) (w:∀b,F b->dQ b):oj dQ h aN v:=by obtain ⟨b,es,ak,al,aI,bB,cG⟩:=H.ex;exact ⟨b,es,ak,al,aI,bB.gR w,w b cG⟩
def FJ (C:Ctx) (n:Nat) (f:FuncId) (l2:ae->V->Bool):Bool:=match sd C n f [] ae.empty with
 | .val v ao=>l2 ao v
 | _=>false
def Ac (h:ae) (b:aL):Prop:=h.next<=bX b
section
variable {C:Ctx} (cJ:C.P.follows .mixedOrders=true) (bE:ec C.P) (gx:pk C) {n:Nat} {f:FuncId} (av:Nat.beq f dr=false) (aj:C.ext f=none) (ho:∃fn,C.P.funcs[f]? =some fn/\fn.body.isSome=true)
include cJ bE gx av aj ho
theorem Z1 {l2:ae->V->Bool} (H:FJ C n f l2=true) (h:ae):∃v ao,l2 ao v=true/\eV C.P f [] h (v.c7 h.next) (h.app ao):=by
 unfold FJ at H;cases ao:sd C n f [] ae.empty with
 | fail=>rw [ao] at H;cases H
 | cK _ _=>rw [ao] at H;cases H
 | val v a'=>
   rw [ao] at H;exact ⟨v,a',H,Z2 cJ bE gx av aj ho ao h⟩
theorem Z0 {m:Nat} {aN:List (Int × List D)} (H:FJ C n f (fun ao v=>FI ao m aN v)=true) (h:ae):c9 C.P f [] h fun x ab=>Ext h ab/\oj (Ac h) ab aN x:=by obtain ⟨v,ao,q,c⟩:=Z1 cJ bE gx av aj ho H h;exact ⟨_,_,c,XQ _ _,(ajH q).gR fun b q=>q.1⟩
end
end
end Go.Proofs.YtgmhjhgoamjeeaaGreatDoor.aX
