/- The abstract machine and its walks (a verified interpreter of the model's code: plain definitions and lemmas, no condition). Printed by a program from longer texts: names made short. -/
import Derived.Test.YtefceblncmdkhaaGreatDoorM4
import Derived.ChangeBears
import Derived.Carry
import Derived.OpenShut
import Derived.ChangeSame
import Derived.Test.YtefceblncmdkhaaGreatDoorM3
import Derived.Handed
import Derived.HandedShaped
set_option linter.unusedSectionVars false
set_option linter.unusedSimpArgs false
set_option linter.unusedVariables false
set_option maxHeartbeats 64000000
noncomputable section
namespace Go.Proofs.YtefceblncmdkhaaGreatDoor.bb
section
open Go Go.RowKit
variable [Lay]
section
variable (P:Program)
def zJ:List Field->Nat->Option Nat
 | [],o=>some o
 | f::cf,o=>if f.offset=o then zJ cf (o+P.cellsOf f.type) else none
def xj:Bool:=(List.range P.types.size).all fun t=>match P.underlying t with
 | some (.struct cf)=>decide (zJ P cf.toList 0=some (P.cellsOf t))
 | _=>true
def ew (h:ah):Nat->Nat->TypeId->List V->Prop
 | 0,_,_,_=>False
 | n+1,m,t,ai=>match P.underlying t with
   | some .bool=>∃b,ai=[.bool b]
   | some (.int k)=>∃i,ai=[.int k i]/\(Lit.int k i).wf=true
   | some .string=>∃s:List UInt8,ai=[.str s]/\s.length+1<=m
   | some (.slice e)=>1<=m/\(ai=[.cr]\/(∃b i j k,ai=[.gV b i j k])\/P.cellsOf e=0\/
      ∃b len cap,ai=[.slice b 0 len cap]/\0<len/\len<=cap/\Old h b/\∃us,nQ h b us/\us.length=len * P.cellsOf e/\∃ms:List Nat,ms.length=len/\ms.sum+1<=m/\
       ∀(i k:Nat),ms[i]? =some k->1<=k/\ew h n k e ((us.drop (i * P.cellsOf e)).take (P.cellsOf e)))
   | some (.struct cf)=>ai.length=P.cellsOf t/\∃ms:List Nat,ms.length=cf.toList.length/\ms.sum+1<=m/\∀(i:Nat) (f:Field) (k:Nat),cf.toList[i]? =some f->ms[i]? =some k->1<=k/\ew h n k f.type ((ai.drop f.offset).take (P.cellsOf f.type))
   | some (.pointer e)=>1<=m/\(ai=[.mg]\/P.cellsOf e=0\/∃b,ai=[.ptr b 0]/\Old h b/\∃us,nQ h b us/\us.length=P.cellsOf e/\∃k,k+1<=m/\ew h n k e us)
   | some (.map _ _)=>ai=[.lB]\/ai=[.bad]
   | some (.interface _)=>ai=[.nilIface]\/ai=[.bad]
   | _=>True
end
theorem ew.ext {P:Program} {h ab:ah} (e:Ext h ab):∀(n m:Nat) (t:TypeId) (ai:List V),ew P h n m t ai->ew P ab n m t ai
 | 0,_,_,_,H=>H
 | n+1,m,t,ai,H=>by
   unfold ew at H ⊢
   split at H<;>try exact H
   . refine ⟨H.1,?_⟩;rcases H.2 with H | H | H | ⟨b,len,cap,J,ad,aC,b0,us,bX,b_,ms,dY,eQ,fz⟩
     . exact .inl H
     . exact .inr (.inl H)
     . exact .inr (.inr (.inl H))
     . exact .inr (.inr (.inr ⟨b,len,cap,J,ad,aC,e.cJ b0,us,e.rd b0 bX,b_,ms,dY,eQ,fun i k ay=>⟨(fz i k ay).1,ew.ext e n _ _ _ (fz i k ay).2⟩⟩))
   . obtain ⟨J,ms,ad,aC,bn⟩:=H;exact ⟨J,ms,ad,aC,fun i f k aA ay=>⟨(bn i f k aA ay).1,ew.ext e n _ _ _ (bn i f k aA ay).2⟩⟩
   . refine ⟨H.1,?_⟩;rcases H.2 with H | H | ⟨b,J,b0,us,bX,b_,k,dY,eQ⟩
     . exact .inl H
     . exact .inr (.inl H)
     . exact .inr (.inr ⟨b,J,e.cJ b0,us,e.rd b0 bX,b_,k,dY,ew.ext e n _ _ _ eQ⟩)
mutual
def gD {H:Type}:DataW H->Nat
 | .lit (.string bytes)=>bytes.length+1
 | .lit _=>1
 | .nil=>1
 | .ptr d=>gD d+1
 | .slice elems spare=>ng elems+ng spare+1
 | .agg parts=>ng parts+1
 | .iface _ d=>gD d+1
 | .map entries=>DF entries+1
 | .held _=>1
def ng {H:Type}:List (DataW H)->Nat
 | []=>0
 | d::r=>gD d+ng r
def DF {H:Type}:List (Lit × DataW H)->Nat
 | []=>0
 | x::r=>Hp x+DF r
def Hp {H:Type}:Lit × DataW H->Nat
 | (.string bytes,d)=>bytes.length+gD d+1
 | (_,d)=>gD d+1
end
theorem sh {H:Type} (d:DataW H):1<=gD d:=by
 cases d with
 | lit l=>cases l<;>simp [gD]
 | _=>simp [gD]
theorem Ho {H:Type}:∀l:List (DataW H),ng l=(l.map gD).sum
 | []=>by simp [ng]
 | d::r=>by simp only [ng,aow,apz,Ho r]
theorem DL {w:World} {base:Nat} {a:Addr} {n:Nat} {l:List Value} (h:w.cells? base a n=some l):l.length=n/\∀i,i<n->w.cell? (a.add i)=l[i]? :=by
 unfold World.cells? at h
 split at h
 . exact ⟨by simpa using mapM_some_length h,fun i au=>mapM_some_get h i i (by simp [au])⟩
 . cases h
theorem T8 {E ax:Env} (he:E.le ax) {ai:List V} {l:List Value} (H:bm E ai l):bm ax ai l:=bm.mono he ai l H
section
variable {H:Type} {enc:TypeId × Value->H} {P:Program} {W:World} {base:Nat} {sp:Nat->Bool} {held:Bool}
def Lays (P:Program) (W:World) (n m:Nat) (t:TypeId) (cs:List Value):Prop:=
 ∀(E:Env) (h:ah),bd ⟨W,fun _=>none⟩ E h W->∃ax ab ai,E.le ax/\Ext h ab/\bd ⟨W,fun _=>none⟩ ax ab W/\bm ax ai cs/\ai.length=cs.length/\ew P ab n m t ai
theorem R_ (n size:Nat) (e:TypeId):∀(pieces:List (List Value)) (ms:List Nat),ms.length=pieces.length->(∀(i:Nat) (l:List Value) (k:Nat),pieces[i]? =some l->ms[i]? =some k->l.length=size/\Lays P W n k e l)->
 ∀(E:Env) (h:ah),bd ⟨W,fun _=>none⟩ E h W->∃ax ab us,E.le ax/\Ext h ab/\bd ⟨W,fun _=>none⟩ ax ab W/\bm ax us pieces.flatten/\us.length=pieces.length * size/\
  ∀(i k:Nat),ms[i]? =some k->ew P ab n k e ((us.drop (i * size)).take size)
 | [],[],_,_,E,h,s=>⟨E,h,[],fun _ _ q=>q,Ext.refl h,s,rfl,by simp,fun i k au=>by simp at au⟩
 | [],_::_,aw,_,_,_,_=>by simp at aw
 | _::_,[],aw,_,_,_,_=>by simp at aw
 | l::ls,m::ms,mG,ak,E,h,s=>by
   obtain ⟨aw,H⟩:=ak 0 l m rfl rfl;obtain ⟨aY,J,ai,bP,a2,a3,a4,a5,ks⟩:=H E h s;obtain ⟨aI,ad,us,b9,cA,kO,nU,nV,vr⟩:=R_ n size e ls ms (by simpa using mG) (fun i l k ag av=>ak (i+1) l k (by simpa using ag) (by simpa using av)) aY J a3;refine ⟨aI,ad,ai++us,bP.trans b9,a2.trans cA,kO,?_,?_,?_⟩
   . rw [aoE];exact bm.append (T8 b9 a4) nU
   . rw [anw,nV,a5,aw,anz,aor];omega
   . intro i k au;cases i with
     | zero=>
       rw [Nat.zero_mul,aok,apx (by rw [a5,aw])];simp only [anR,ant] at au;subst au;exact ew.ext cA _ _ _ _ ks
     | succ i=>
       rw [aor,Nat.one_mul,apy,<-aoK,List.drop_left' (by rw [a5,aw])];exact vr i k (by simpa using au)
theorem R' (n:Nat):∀(cf:List Field) (ms:List Nat) (o cp:Nat) (cs:List Value),zJ P cf o=some cp->cs.length=cp->ms.length=cf.length->(∀(i:Nat) (f:Field) (k:Nat),cf[i]? =some f->ms[i]? =some k->Lays P W n k f.type ((cs.drop f.offset).take (P.cellsOf f.type)))->
 o<=cp/\∀(E:Env) (h:ah),bd ⟨W,fun _=>none⟩ E h W->∃ax ab ai,E.le ax/\Ext h ab/\bd ⟨W,fun _=>none⟩ ax ab W/\bm ax ai (cs.drop o)/\ai.length=cp-o/\
  ∀(i:Nat) (f:Field) (k:Nat),cf[i]? =some f->ms[i]? =some k->o<=f.offset/\ew P ab n k f.type ((ai.drop (f.offset-o)).take (P.cellsOf f.type))
 | [],_::_,_,_,_,_,_,mG,_=>by simp at mG
 | _::_,[],_,_,_,_,_,mG,_=>by simp at mG
 | [],[],o,cp,cs,aE,aw,_,_=>by simp only [zJ,ant] at aE;subst aE;refine ⟨anD _,fun E h s=>⟨E,h,[],fun _ _ q=>q,Ext.refl h,s,?_,by simp,fun i f k aA=>by simp at aA⟩⟩;rw [an5 (by omega)];rfl
 | f::cf,m::ms,o,cp,cs,aE,aw,mG,ak=>by
   simp only [zJ] at aE;by_cases aA:f.offset=o
   . rw [anL aA] at aE;obtain ⟨g1,g2⟩:=R' n cf ms (o+P.cellsOf f.type) cp cs aE aw (by simpa using mG) (fun i f k ag av=>ak (i+1) f k (by simpa using ag) (by simpa using av));refine ⟨by omega,fun E h s=>?_⟩;have wo:=ak 0 f m rfl rfl;obtain ⟨aY,J,ai,bP,a2,a3,a4,a5,ks⟩:=wo E h s;obtain ⟨aI,ad,us,b9,cA,kO,nU,nV,vr⟩:=g2 aY J a3;have Jq:ai.length=P.cellsOf f.type:=by rw [a5,aod,an1,aA];omega
     refine ⟨aI,ad,ai++us,bP.trans b9,a2.trans cA,kO,?_,?_,?_⟩
     . have e:cs.drop o=(cs.drop f.offset).take (P.cellsOf f.type)++cs.drop (o+P.cellsOf f.type):=by
        rw [aA,<-aoK,ao1]
       rw [e];exact bm.append (T8 b9 a4) nU
     . rw [anw,Jq,nV];omega
     . intro i g k an ay;cases i with
       | zero=>
         simp only [anR,ant] at an ay;subst an ay;refine ⟨by omega,?_⟩;rw [aA,apf,aok,apx Jq];exact ew.ext cA _ _ _ _ ks
       | succ i=>
         obtain ⟨bW,cu⟩:=vr i g k (by simpa using an) (by simpa using ay);refine ⟨by omega,?_⟩;rw [show g.offset-o=P.cellsOf f.type + (g.offset - (o+P.cellsOf f.type)) from by omega,<-aoK,List.drop_left' Jq];exact cu
   . rw [anE aA] at aE;cases aE
theorem OS {w:World} {a:Addr} {y:Value} (h:w.cell? a=some y):a.spot=none/\∃c el b5,w.heap[a.block]? =some (.cells c el b5)/\c[a.off]? =some y:=by
 refine ⟨World.cell?_spot h,?_⟩;unfold World.cell? at h
 split at h
 . rename_i c el b5 bp
   split at h
   . cases h
   . exact ⟨c,el,b5,bp,h⟩
 . cases h
theorem Wq (a:Addr) (n:Nat):(a.add n).block=a.block:=by unfold Addr.add;split<;>rfl
theorem Wr (a:Addr) (n:Nat):(a.add n).off=a.off+n:=by unfold Addr.add;split<;>simp_all
theorem ajS {w:World} {a:Addr} {l:List Value} (a6:0<l.length) (h:∀i,i<l.length->w.cell? (a.add i)=l[i]?):
 a.spot=none/\∃c el b5,w.heap[a.block]? =some (.cells c el b5)/\a.off+l.length<=c.size/\∀i,i<l.length->c[a.off+i]? =l[i]? :=by
 have yn:w.cell? (a.add 0)=some l[0]:=by rw [h 0 a6];exact anv a6
 obtain ⟨s1,c,el,b5,s2,uT⟩:=OS yn;have dI:a.add 0=a:=by unfold Addr.add;simp
 rw [dI] at s1 s2 uT;have key:∀i,i<l.length->c[a.off+i]? =l[i]? :=by intro i au;have q:=h i au;rw [anv au] at q ⊢;obtain ⟨_,hY,al',amb,t2,t3⟩:=OS q;rw [Wq,s2] at t2;rw [Wr] at t3;simp only [ant,Obj.cells.injEq] at t2;obtain ⟨rfl,_,_⟩:=t2;exact t3
 refine ⟨s1,c,el,b5,s2,?_,key⟩;have:=key (l.length-1) (by omega);rw [anv (by omega)] at this;have aH:=(anx.1 this).1;omega
theorem Vf {E:Env} {h:ah} (s:bd ⟨W,fun _=>none⟩ E h W) {a:Addr} {cap:Nat} {l:List Value} (a6:0<l.length) (ao:∀i,i<l.length->W.cell? (a.add i)=l[i]?) {us:List V} (aK:bm E us l):
 ∃ax ab b,E.le ax/\Ext h ab/\bd ⟨W,fun _=>none⟩ ax ab W/\Old ab b/\a.spot=none/\ax b=some ⟨a.block,a.off,cap⟩/\nQ ab b us:=by
 obtain ⟨s1,c,el,b5,s2,uT,zB⟩:=ajS a6 ao;have Rl:us.length=l.length:=(bm.length aK).symm;refine ⟨r3 E h ⟨a.block,a.off,cap⟩,h.new (.ro us),aD h.next,Ll s _,(Ext.refl h).new _,akl s s2 (by omega) fun i v y bB bc=>?_,S_,s1,Ve _ _ _,.inl (jD _)⟩;have au:i<l.length:=by have:=(anU.1 bB).1;omega
 rw [zB i au] at bc;obtain ⟨qW,al,aN⟩:=bm.get aK i v bB;rw [bc] at al;simp only [ant] at al;rw [al];exact aN
theorem P3 {α:Type} (size:Nat):∀(pieces:List (List α)) (i j:Nat),(∀l ∈ pieces,l.length=size)->i<pieces.length->j<size->pieces.flatten[i * size+j]? =(pieces[i]?).bind (·[j]?)
 | [],i,j,_,au,_=>by simp at au
 | l::ls,i,j,ak,au,bI=>by
   have aw:l.length=size:=ak l (by simp);cases i with
   | zero=>
     rw [Nat.zero_mul,an8,aoE,anX (by omega)];simp
   | succ i=>
     rw [aoE,anW (by rw [aw,aor];omega)];rw [show (i+1) * size+j-l.length=i * size+j from by rw [aw,aor];omega];rw [P3 size ls i j (fun l aw=>ak l (by simp [aw])) (by simpa using au) bI];simp
theorem P5 {α:Type} (size:Nat):∀(pieces:List (List α)),(∀l ∈ pieces,l.length=size)->pieces.flatten.length=pieces.length * size
 | [],_=>by simp
 | l::ls,ak=>by rw [aoE,anw,P5 size ls (fun l aw=>ak l (by simp [aw])),ak l (by simp),anz,aor];omega
theorem Tw {α:Type} (R:Nat->α->Prop):∀(len:Nat),(∀i,i<len->∃l,R i l)->∃bE:List α,bE.length=len/\∀i l,bE[i]? =some l->R i l
 | 0,_=>⟨[],rfl,fun i l q=>by simp at q⟩
 | m+1,h=>by
   obtain ⟨bE,ag,av⟩:=Tw R m (fun i au=>h i (by omega));obtain ⟨l,J⟩:=h m (by omega);refine ⟨bE++[l],by simp [ag],fun i gm gu=>?_⟩;by_cases au:i<bE.length
   . rw [anX au] at gu;exact av i gm gu
   . rw [anW (by omega)] at gu;have dI:i-bE.length=0:=by
      by_cases q:i-bE.length=0
      . exact q
      . rw [an3 (by simp;omega)] at gu;cases gu
     rw [dI] at gu;simp at gu;subst gu;obtain rfl:i=m:=by omega
     exact J
theorem EV (eu:xj P=true) (cB:laidOutB P=true):∀(n:Nat) (t:TypeId) (cs:List Value) (x:DataW H × List MemPlace),t<P.types.size->DataW.trod enc P W base sp held n t cs=some x->Lays P W n (gD x.1) t cs
 | 0,t,cs,x,_,h=>by simp [DataW.trod] at h
 | n+1,t,cs,x,aH,h=>by
   have DA:∀(cs:List Value),(∀ab ai,ai.length=cs.length->ew P ab (n+1) (gD x.1) t ai)->Lays P W (n+1) (gD x.1) t cs:=by
    intro cs H E h s;refine ⟨E,h,cs.map fun _=>.bad,fun _ _ q=>q,Ext.refl h,s,?_,by simp,H _ _ (by simp)⟩;clear H
    induction cs with
    | nil=>rfl
    | cons c cs bC=>exact ⟨c,cs,rfl,by simp [Rel],bC⟩
   cases hu:P.underlying t with
   | none=>
     refine DA cs fun ab ai _=>?_;simp only [ew,hu]
   | some u=>
     cases u with
     | bool=>
       obtain ⟨b,rfl,_⟩:=DataW.trod_bool hu h;intro E h s;exact ⟨E,h,[.bool b],fun _ _ q=>q,Ext.refl h,s,⟨_,_,rfl,rfl,rfl⟩,rfl,by simp only [ew,hu];exact ⟨b,rfl⟩⟩
     | int k=>
       obtain ⟨i,rfl,_,hw⟩:=DataW.trod_int hu h;intro E h s;exact ⟨E,h,[.int k i],fun _ _ q=>q,Ext.refl h,s,⟨_,_,rfl,rfl,rfl⟩,rfl,by simp only [ew,hu];exact ⟨i,rfl,hw⟩⟩
     | string=>
       obtain ⟨b,rfl,rfl,_⟩:=DataW.trod_string hu h;intro E h s;exact ⟨E,h,[.str b.data.toList],fun _ _ q=>q,Ext.refl h,s,⟨_,_,rfl,rfl,rfl⟩,rfl,by simp only [ew,hu,gD];exact ⟨_,rfl,anD _⟩⟩
     | struct cf=>
       obtain ⟨xs,eN,aX,rfl,aw,yV,aA⟩:=DataW.trod_struct hu h;obtain rfl:n=eN:=by omega
       have ads:zJ P cf.toList 0=some (P.cellsOf t):=by unfold xj at eu;rw [an0] at eu;have:=eu t (ao9.2 aH);rw [hu] at this;exact of_decide_eq_true this
       have l2:∀(i:Nat) (f:Field) (k:Nat),cf.toList[i]? =some f->(xs.map fun x=>gD x.1)[i]? =some k->Lays P W n k f.type ((cs.drop f.offset).take (P.cellsOf f.type)):=by
        intro i f k au ay;have pq:f ∈ cf.toList:=aob au;have kf:cf[i]? =some f:=by simpa using au
        have:=aA i f kf;have QV:i<xs.length:=by rw [yV];exact (anx.1 kf).1
        rw [anv QV] at this;rw [aoo,anv QV,ao2,ant] at ay;subst ay;exact EV eu cB n _ _ _ ((kid_struct cB aH hu).1 f pq) this
       intro E h s;obtain ⟨_,g⟩:=R' n cf.toList (xs.map fun x=>gD x.1) 0 _ cs ads aw (by simp [yV]) l2;obtain ⟨ax,ab,ai,bP,a2,a3,a4,a5,ks⟩:=g E h s;refine ⟨ax,ab,ai,bP,a2,a3,by simpa using a4,by rw [a5,aw];omega,?_⟩;simp only [ew,hu];refine ⟨by omega,xs.map fun x=>gD x.1,by simp [yV],?_,fun i f k pq ay=>⟨?_,by simpa using (ks i f k pq ay).2⟩⟩
       . simp only [gD,Ho,List.map_map];exact anD _
       . rw [aoo,Option.map_eq_some_iff] at ay;obtain ⟨y,_,rfl⟩:=ay;exact sh _
     | slice e=>
       rcases DataW.trod_slice hu h with ⟨rfl,rfl⟩ | ⟨a,len,cap,elems,rest,eN,aX,rfl,rfl,aj,sA,_,Qz,Bj,_,_⟩
       . intro E h s;exact ⟨E,h,[.cr],fun _ _ q=>q,Ext.refl h,s,⟨_,_,rfl,rfl,rfl⟩,rfl,by simp only [ew,hu];exact ⟨sh _,.inl trivial⟩⟩
       . obtain rfl:n=eN:=by omega
         by_cases aL:P.cellsOf e=0
         . refine DA _ fun ab ai _=>?_;simp only [ew,hu];exact ⟨sh _,.inr (.inr (.inl aL))⟩
         by_cases l3:len=0
         . subst l3;intro E h s;refine ⟨E,h,[.gV .z 0 0 0],fun _ _ q=>q,Ext.refl h,s,⟨_,_,rfl,?_,rfl⟩,rfl,by simp only [ew,hu];exact ⟨sh _,.inr (.inl ⟨_,_,_,_,rfl⟩)⟩⟩;simp only [Rel];exact ⟨_,_,rfl⟩
         . -- its elements
           have lp:∀i,i<len->∃l,W.cells? base (a.add (i * P.cellsOf e)) (P.cellsOf e)=some l/\∀k:Nat,(elems.map fun x=>gD x.1)[i]? =some k->Lays P W n k e l:=by intro i au;have:=Bj i au;rw [anv (by omega)] at this;rw [Option.bind_eq_some_iff] at this;obtain ⟨l,J,ad⟩:=this;refine ⟨l,J,fun k ay=>?_⟩;rw [aoo,anv (by omega),ao2,ant] at ay;subst ay;exact EV eu cB n _ _ _ (kid_slice cB aH hu) ad
           obtain ⟨pieces,lo,iQ⟩:∃pieces:List (List Value),pieces.length=len/\∀i (l:List Value),pieces[i]? =some l->W.cells? base (a.add (i * P.cellsOf e)) (P.cellsOf e)=some l/\∀k:Nat,(elems.map fun x=>gD x.1)[i]? =some k->Lays P W n k e l:=by exact Tw (fun i l=>W.cells? base (a.add (i * P.cellsOf e)) (P.cellsOf e)=some l/\∀k:Nat,(elems.map fun x=>gD x.1)[i]? =some k->Lays P W n k e l) len lp
           have kA:∀(i:Nat) (l:List Value) (k:Nat),pieces[i]? =some l->(elems.map fun x=>gD x.1)[i]? =some k->l.length=P.cellsOf e/\Lays P W n k e l:=by intro i l k au ay;obtain ⟨ag,av⟩:=iQ i l au;exact ⟨(DL ag).1,av k ay⟩
           have Q6:∀l ∈ pieces,l.length=P.cellsOf e:=by intro l aw;obtain ⟨i,au⟩:=List.getElem?_of_mem aw;exact (DL (iQ i l au).1).1
           intro E h s;obtain ⟨aY,J,us,bP,a2,a3,a4,a5,ks⟩:=R_ n (P.cellsOf e) e pieces (elems.map fun x=>gD x.1) (by simp [Qz,lo]) kA E h s;have l2:=P5 (P.cellsOf e) pieces Q6;have Bv:0<len * P.cellsOf e:=Nat.mul_pos (by omega) (by omega);have Iw:∀i,i<pieces.flatten.length->W.cell? (a.add i)=pieces.flatten[i]? :=by
            intro q aq;rw [l2] at aq;have QZ:q % P.cellsOf e<P.cellsOf e:=Nat.mod_lt _ (by omega);have hdiv:q / P.cellsOf e<pieces.length:=Nat.div_lt_of_lt_mul (by rw [Nat.mul_comm];exact aq);have wv:q / P.cellsOf e * P.cellsOf e+q % P.cellsOf e=q:=by rw [Nat.mul_comm];exact Nat.div_add_mod q _
            rw [<-wv,P3 (P.cellsOf e) pieces _ _ Q6 hdiv QZ,anv hdiv];obtain ⟨ag,_⟩:=iQ _ _ (anv hdiv);have:=(DL ag).2 _ QZ;rw [Option.bind_some,<-this];congr 1;unfold Addr.add;by_cases da:q / P.cellsOf e * P.cellsOf e=0
            . rw [da];simp
            . by_cases z2:q % P.cellsOf e=0
              . rw [z2];simp
              . have z3:¬(q / P.cellsOf e * P.cellsOf e+q % P.cellsOf e=0):=by omega
                rw [anE da,anE z2,anE z3];simp [aoH]
           obtain ⟨aI,ad,b,b9,cA,kO,nU,nV,vr,Hi⟩:=Vf a3 (cap:=cap) (by rw [l2,lo];exact Bv) Iw a4;refine ⟨aI,ad,[.slice b 0 len cap],bP.trans b9,a2.trans cA,kO,⟨_,_,rfl,?_,rfl⟩,rfl,?_⟩
           . simp only [Rel];refine ⟨_,vr,sA,?_⟩;obtain ⟨pd,ah_,st⟩:=a;simp only at nV;subst nV;rfl
           . simp only [ew,hu];refine ⟨sh _,.inr (.inr (.inr ⟨b,len,cap,rfl,by omega,sA,nU,us,Hi,by rw [a5,lo],elems.map fun x=>gD x.1,by simp [Qz],?_,fun i k ay=>⟨?_,ew.ext cA _ _ _ _ (ks i k ay)⟩⟩))⟩
             . simp only [gD,Ho,List.map_map];exact Nat.add_le_add_right (Nat.le_add_right _ _) 1
             . rw [aoo,Option.map_eq_some_iff] at ay;obtain ⟨y,_,rfl⟩:=ay;exact sh _
     | pointer e=>
       rcases DataW.trod_pointer hu h with ⟨rfl,rfl⟩ | ⟨a,x0,y,eN,aX,rfl,rfl,ao,bc⟩
       . intro E h s;exact ⟨E,h,[.mg],fun _ _ q=>q,Ext.refl h,s,⟨_,_,rfl,rfl,rfl⟩,rfl,by simp only [ew,hu];exact ⟨sh _,.inl trivial⟩⟩
       . obtain rfl:n=eN:=by omega
         by_cases aL:P.cellsOf e=0
         . refine DA _ fun ab ai _=>?_;simp only [ew,hu];exact ⟨sh _,.inr (.inl aL)⟩
         . intro E h s;obtain ⟨ag,av⟩:=DL ao;obtain ⟨aY,J,us,bP,a2,a3,a4,a5,ks⟩:=EV eu cB n _ _ _ (kid_pointer cB aH hu) bc E h s;obtain ⟨aI,ad,b,b9,cA,kO,nU,nV,vr,Hi⟩:=Vf a3 (cap:=0) (by omega) (fun i au=>av i (by omega)) a4;refine ⟨aI,ad,[.ptr b 0],bP.trans b9,a2.trans cA,kO,⟨_,_,rfl,?_,rfl⟩,rfl,?_⟩
           . simp only [Rel];refine ⟨_,vr,?_⟩;obtain ⟨pd,ah_,st⟩:=a;simp only at nV;subst nV;rfl
           . simp only [ew,hu];exact ⟨sh _,.inr (.inr ⟨b,rfl,nU,us,Hi,by omega,_,anD _,ew.ext cA _ _ _ _ ks⟩)⟩
     | map k e=>
       have hc:cs.length=1:=by
        unfold DataW.trod at h;rw [hu] at h
        split at h<;>simp_all
       intro E h s;refine ⟨E,h,[.bad],fun _ _ q=>q,Ext.refl h,s,?_,by simp [hc],by simp only [ew,hu];exact .inr trivial⟩
       match cs,hc with
       | [c],_=>exact ⟨c,[],rfl,by simp [Rel],rfl⟩
     | interface ms=>
       have hc:cs.length=1:=by
        unfold DataW.trod at h;rw [hu] at h
        split at h<;>simp_all
       intro E h s;refine ⟨E,h,[.bad],fun _ _ q=>q,Ext.refl h,s,?_,by simp [hc],by simp only [ew,hu];exact .inr trivial⟩
       match cs,hc with
       | [c],_=>exact ⟨c,[],rfl,by simp [Rel],rfl⟩
     | _=>
       refine DA cs fun ab ai _=>?_;simp only [ew,hu]
def q6 (P:Program) (h:ah) (n m:Nat) (t:TypeId) (v:V):Prop:=
 match P.underlying t with
 | some (.struct _) | some (.array _ _)=>∃ai,v=.agg ai/\ew P h n m t ai
 | _=>ew P h n m t [v]
theorem q6.ext {h ab:ah} (e:Ext h ab) {n m:Nat} {t:TypeId} {v:V} (H:q6 P h n m t v):q6 P ab n m t v:=by
 unfold q6 at H ⊢
 split at H
 . obtain ⟨ai,ag,av⟩:=H;exact ⟨ai,ag,ew.ext e _ _ _ _ av⟩
 . obtain ⟨ai,ag,av⟩:=H;exact ⟨ai,ag,ew.ext e _ _ _ _ av⟩
 . exact ew.ext e _ _ _ _ H
theorem agS (eu:xj P=true) (cB:laidOutB P=true) {r:Reach} {nT:Nat} {t:TypeId} {v:Value} {d:DataW H} {p:List MemPlace} (aH:t<P.types.size) (bz:Value.okWide P W r nT t v) (aZ:DataW.Trod enc P W base sp held t v d p) {E:Env} {h:ah} (s:bd ⟨W,fun _=>none⟩ E h W):
 ∃n ax ab x,E.le ax/\Ext h ab/\bd ⟨W,fun _=>none⟩ ax ab W/\Rel ax x v/\q6 P ab n (gD d) t x:=by
 obtain ⟨fuel,aA⟩:=aZ;obtain ⟨ax,ab,ai,bP,a2,a3,a4,a5,ks⟩:=EV eu cB _ _ _ _ aH aA E h s;have agg:(∃cs,v=.agg cs)->∃x,Rel ax x v/\x=.agg ai:=by rintro ⟨cs,rfl⟩;exact ⟨.agg ai,by simp only [Rel];exact ⟨cs,rfl,a4⟩,rfl⟩
 have one:v.cells=#[v]->∃x,Rel ax x v/\ai=[x]:=by
  intro ao;rw [ao] at a4 a5
  match ai,a4,a5 with
  | [x],⟨y,cT,al,aN,cj⟩,_=>
    simp only [aoY] at al;exact ⟨x,al.1 ▸ aN,rfl⟩
 refine ⟨fuel,ax,ab,?_⟩;unfold Value.okWide at bz;cases hu:P.underlying t with
 | none=>
   rw [hu] at bz;simp only [Cell.okWide,Cell.ok,hu] at bz
 | some u=>
   rw [hu] at bz;unfold q6;rw [hu];cases u<;>simp only at bz ⊢<;>first
    | (obtain ⟨cs,bB,_⟩:=bz
       obtain ⟨x,ag,av⟩:=agg ⟨cs,bB⟩;exact ⟨x,bP,a2,a3,ag,ai,av,ks⟩)
    | (have ao:v.cells=#[v]:=by
        cases v<;>first
         | rfl
         | (simp only [Cell.okWide,Cell.ok,hu] at bz)
       obtain ⟨x,ag,av⟩:=one ao;exact ⟨x,bP,a2,a3,ag,av ▸ ks⟩)
def oK (P:Program) (h:ah):Nat->List TypeId->List V->Prop
 | _,[],[]=>True
 | m,t::c2,v::ai=>∃k bu,k+bu<=m/\(∃n,q6 P h n k t v)/\oK P h bu c2 ai
 | _,_,_=>False
theorem oK.mono {h:ah}:∀{m dD:Nat} {c2:List TypeId} {ai:List V},m<=dD->oK P h m c2 ai->oK P h dD c2 ai
 | _,_,[],[],_,H=>by unfold oK;trivial
 | _,_,[],_::_,_,H=>H.elim
 | _,_,_::_,[],_,H=>H.elim
 | _,_,_::_,_::_,hm,⟨k,bu,ay,H,my⟩=>⟨k,bu,aol ay hm,H,my⟩
theorem R9 (eu:xj P=true) (cB:laidOutB P=true) {r:Reach} {nT:Nat}:∀{c2:List TypeId} {ai:List Value} {ds:List (DataW H)} {p:List MemPlace},(∀t ∈ c2,t<P.types.size)->(∀(j:Nat) t v,c2[j]? =some t->ai[j]? =some v->Value.okWide P W r nT t v)->
 DataW.TrodAll enc P W base sp held c2 ai ds p->∀{E:Env} {h:ah},bd ⟨W,fun _=>none⟩ E h W->∃ax ab xs,E.le ax/\Ext h ab/\bd ⟨W,fun _=>none⟩ ax ab W/\bm ax xs ai/\oK P ab (ng ds) c2 xs
 | [],[],ds,p,_,_,_,E,h,s=>⟨E,h,[],fun _ _ q=>q,Ext.refl h,s,rfl,by unfold oK;trivial⟩
 | [],_::_,ds,p,_,_,aZ,E,h,s=>by cases ds<;>exact aZ.elim
 | _::_,[],ds,p,_,_,aZ,E,h,s=>by cases ds<;>exact aZ.elim
 | _::_,_::_,[],p,_,_,aZ,E,h,s=>aZ.elim
 | t::c2,v::ai,d::ds,p,aE,bB,⟨ct,cy,J,ad,_⟩,E,h,s=>by obtain ⟨n,aY,g1,x,bP,a2,a3,a4,a5⟩:=agS eu cB (aE t (by simp)) (bB 0 t v rfl rfl) J s;obtain ⟨aI,g2,xs,b9,cA,kO,nU,nV⟩:=R9 eu cB (fun t q=>aE t (by simp [q])) (fun j t v ag av=>bB (j+1) t v (by simpa using ag) (by simpa using av)) ad a3;exact ⟨aI,g2,x::xs,bP.trans b9,a2.trans cA,kO,⟨_,_,rfl,Rel.mono b9 _ _ a4,nU⟩,gD d,ng ds,by simp only [ng];exact anD _,⟨n,a5.ext cA⟩,nV⟩
theorem Y4 (eu:xj P=true) (cB:laidOutB P=true) {r:Reach} {nT:Nat} {f:FuncId} {c2:List TypeId} {ai:List Value} {ds:List (DataW H)} {p:List MemPlace} (gb:∀t ∈ c2,t<P.types.size) (bB:∀(j:Nat) t v,c2[j]? =some t->ai[j]? =some v->Value.okWide P W r nT t v)
 (aZ:DataW.TrodAll enc P W base sp held c2 ai ds p) (ym:Lay.ok W) (aM:fa P) (aj:∃fn,P.funcs[f]? =some fn/\fn.body.isSome=true) (ao:∀(h:ah) (xs:List V),oK P h (ng ds) c2 xs->b8 P f xs h fun y _=>y=.bool true):
 Calls P f ai.toArray W fun e w'=>e=.returned (.bool true)/\Below W.heap.size W w':=by
 obtain ⟨E,h,xs,_,_,a3,a4,a5⟩:=R9 eu cB gb bB aZ (F7 W ym);obtain ⟨y,ab,jF,rfl⟩:=ao h xs a5;refine (jF.calls aM aj _ E W ai a4 a3).mono fun e w' q=>?_;obtain ⟨ax,x,rfl,_,av,aJ⟩:=q;simp only [Rel] at av;subst av;exact ⟨rfl,aJ.frame⟩
end
end
section
open Go Go.RowKit
variable [Lay]
section
variable {P:Program} {h:ah} {n m:Nat} {t:TypeId}
theorem ew.pos {ai:List V} (H:ew P h n m t ai):∃k,n=k+1:=by
 cases n with
 | zero=>exact H.elim
 | succ m=>exact ⟨m,rfl⟩
theorem ew.int {ai:List V} {k:IntKind} (H:ew P h n m t ai) (hu:P.underlying t=some (.int k)):∃i,ai=[.int k i]/\(Lit.int k i).wf=true:=by obtain ⟨m,rfl⟩:=H.pos;simpa only [ew,hu] using H
theorem ew.str {ai:List V} (H:ew P h n m t ai) (hu:P.underlying t=some .string):∃s:List UInt8,ai=[.str s]/\s.length+1<=m:=by obtain ⟨_,rfl⟩:=H.pos;simpa only [ew,hu] using H
theorem ew.struct {ai:List V} {cf:Array Field} (H:ew P h n m t ai) (hu:P.underlying t=some (.struct cf)):∃eN,n=eN+1/\ai.length=P.cellsOf t/\∃ms:List Nat,ms.length=cf.toList.length/\ms.sum+1<=m/\
 ∀(i:Nat) (f:Field) (k:Nat),cf.toList[i]? =some f->ms[i]? =some k->1<=k/\ew P h eN k f.type ((ai.drop f.offset).take (P.cellsOf f.type)):=by
 obtain ⟨eN,rfl⟩:=H.pos;refine ⟨eN,rfl,?_⟩;simpa only [ew,hu] using H
def xd (v:V):Prop:=∀b off l c,v=.slice b off l c->l<=c
def Dq (h:ah) (size:Nat) (v:V) (len m:Nat) (Q:Nat->List V->Prop):Prop:=
 v.one=true/\v.cells=[v]/\v.fR=true/\mb v=some (.int .i64 len)/\xd v/\∃(us:List V) (ms:List Nat),e3 h size v len us/\ms.length=len/\ms.sum+1<=m/\∀(i k:Nat),ms[i]? =some k->1<=k/\Q k ((us.drop (i * size)).take size)
theorem ew.slice {ai:List V} {e:TypeId} (H:ew P h n m t ai) (hu:P.underlying t=some (.slice e)) (aL:P.cellsOf e≠0):∃eN v len,n=eN+1/\ai=[v]/\Dq h (P.cellsOf e) v len m (fun k=>ew P h eN k e):=by
 obtain ⟨eN,rfl⟩:=H.pos;simp only [ew,hu] at H;obtain ⟨a6,H⟩:=H;rcases H with rfl | ⟨b,i,j,k,rfl⟩ | q | ⟨b,len,cap,rfl,J,ad,bn,us,bX,b_,ms,dY,eQ,fz⟩
 . exact ⟨eN,_,0,rfl,rfl,rfl,rfl,rfl,rfl,(fun _ _ _ _ e=>by cases e),[],[],⟨by simp,rfl⟩,rfl,by simpa using a6,fun i k au=>by simp at au⟩
 . exact ⟨eN,_,0,rfl,rfl,rfl,rfl,rfl,rfl,(fun _ _ _ _ e=>by cases e),[],[],⟨by simp,rfl⟩,rfl,by simpa using a6,fun i k au=>by simp at au⟩
 . exact absurd q aL
 . exact ⟨eN,_,len,rfl,rfl,rfl,rfl,rfl,rfl,(fun _ _ _ _ e=>by cases e;exact ad),us,ms,⟨b_,rfl,bn,us,bX,by omega,by simp⟩,dY,eQ,fz⟩
end
end
section
open Go Go.RowKit Go.ChangeShapes Go.WideShapes
variable [Lay]
section
variable {H:Type} {enc:TypeId × Value->H} {P:Program}
theorem Mt (cB:laidOutB P=true) {W Ap:World} (aj:Below W.heap.size W Ap):∀{c2:List TypeId} {ai:List Value} {ds:List (DataW H)} {bE:List MemPlace},(c2.all fun t=>P.readableRec t&&decide (t<P.types.size))=true->
 DataW.TrodAll enc P W 0 (fun _=>true) true c2 ai ds bE->DataW.TrodAll enc P Ap 0 (fun b=>decide (b<W.heap.size)) true c2 ai ds bE
 | [],[],[],_,_,h=>h
 | [],_::_,_,_,_,h=>by rename_i ds _;cases ds<;>exact h.elim
 | [],[],_::_,_,_,h=>h.elim
 | _::_,[],_,_,_,h=>by rename_i ds _;cases ds<;>exact h.elim
 | _::_,_::_,[],_,_,h=>h.elim
 | t::c2,v::ai,d::ds,bE,aK,h=>by have aH:=h.lt;obtain ⟨p,q,J,ad,rfl⟩:=h;simp only [aoy,anu,anM] at aK;exact ⟨p,q,Below.trod cB aK.1.1 aK.1.2 J aj (fun x ar=>aH x (by simp [ar])),Mt cB aj aK.2 ad,rfl⟩
theorem U0 {W:World} {base:Nat} {sp:Nat->Bool} {held:Bool}:∀{c2:List TypeId} {ai:List Value} {ds:List (DataW H)} {bE:List MemPlace},DataW.TrodAll enc P W base sp held c2 ai ds bE->ds.length=c2.length
 | [],[],[],_,_=>rfl
 | [],_::_,ds,_,h=>by cases ds<;>exact h.elim
 | [],[],_::_,_,h=>h.elim
 | _::_,[],ds,_,h=>by cases ds<;>exact h.elim
 | _::_,_::_,[],_,h=>h.elim
 | t::c2,v::ai,d::ds,bE,h=>by obtain ⟨p,q,J,ad,rfl⟩:=h;simp [U0 ad]
theorem agF (eu:xj P=true) (cB:laidOutB P=true) {f:FuncId} {fn:Func} {s:ChangeSpec} {Le:TypeId} (gb:(fn.params.toList.all fun t=>P.readableRec t&&decide (t<P.types.size))=true) (Rm:s.vars=[]) (adj:fn.resultTypes=#[Le]) (adx:P.underlying Le=some .bool)
 (Jk:∀ds:List (DataW H),ds.length=fn.params.size->s.fn H (ds++[])={results:=[.lit (.bool true)],args:=ds})
 {B:Nat} (ao:∀(h:ah) (xs:List V),oK P h B fn.params.toList xs->b8 P f xs h fun y _=>y=.bool true)
 {W:World} {base:Nat} {args:Array Value} {ds gs:List (DataW H)} {before:List MemPlace} (ay:ng (ds++gs)<=B) (l4:Lay.ok W) (aM:fa P) (aj:∃fn,P.funcs[f]? =some fn/\fn.body.isSome=true)
 (Jp:∀(j:Nat) t v,fn.params[j]? =some t->args[j]? =some v->Value.okWide P W .any base t v) (ym:DataW.Whole enc P fn.params.toList s.vars false W args.toList ds gs before):
 Calls P f args W fun e Ap=>∃v,e=.returned v/\s.post enc P fn false true false false W args v Ap:=by
 have abW:=ym;obtain ⟨p,q,dJ,Qq,rfl,rn,pt⟩:=ym;rw [Rm] at Qq;obtain ⟨rfl,rfl⟩:=trodVars_none Qq;have hlen:ds.length=fn.params.size:=by rw [U0 dJ];simp
 have hw:=Y4 eu cB (nT:=base) (r:=.any) (fun t aE=>by
  have:=an0.1 gb t aE;simp only [anu,anM] at this
  exact this.2) (fun j t v J ad=>Jp j t v (by simpa using J) (by simpa using ad)) dJ l4 aM aj (fun h xs q=>ao h xs (q.mono (by simpa using ay)))
 simp only [aoP] at hw;refine hw.mono fun e Ap ⟨he,Ms⟩=>?_;subst he;refine ⟨_,rfl,ds,[],p++[],[],p,[],abW,?_,?_,?_,Ms.frame _,fun h=>by cases h⟩
 . rw [Jk ds hlen,adj];exact trodAll_mk1 (shut_bool adx _)
 . rw [Jk ds hlen];exact Mt cB Ms gb dJ
 . rw [Jk ds hlen,Rm];rfl
end
end
section
open Go Go.RowKit
variable [Lay]
theorem akg {P:Program} {h:ah} {B:Nat} {xs:List V} (aL:oK P h B [] xs):xs=[]:=by
 match xs,aL with
 | [],_=>rfl
theorem akf {P:Program} {h:ah} {B:Nat} {t:TypeId} {c2:List TypeId} {xs:List V} (aL:oK P h B (t::c2) xs):∃a Ds k bu n,xs=a::Ds/\k+bu<=B/\q6 P h n k t a/\oK P h bu c2 Ds:=by
 match xs,aL with
 | a::Ds,⟨k,bu,ay,⟨n,a6⟩,J⟩=>exact ⟨a,Ds,k,bu,n,rfl,ay,a6,J⟩
section
variable {P:Program} {h:ah} {n m:Nat} {t:TypeId} {v:V}
theorem akh {e:TypeId} (aL:q6 P h n m t v) (hu:P.underlying t=some (.slice e)) {c:Nat} (ao:P.cellsOf e=c) (yn:c≠0):∃eN len,Dq h c v len m (fun k=>ew P h eN k e):=by unfold q6 at aL;rw [hu] at aL;subst ao;obtain ⟨eN,w,len,_,al,g⟩:=ew.slice aL hu yn;simp only [aoY,apI] at al;subst al;exact ⟨eN,len,g⟩
end
inductive D where
 | i (k:IntKind) (n:Int)
 | b (x:Bool)
 | s (x:List UInt8)
 | l (size:Nat) (es:List (List D))
inductive cg (F:aU->Prop) (h:ah):List D->List V->Prop
 | nil:cg F h [] []
 | i {k:IntKind} {n:Int} {ds:List D} {ai:List V} (t:cg F h ds ai):cg F h (.i k n::ds) (.int k n::ai)
 | b {x:Bool} {ds:List D} {ai:List V} (t:cg F h ds ai):cg F h (.b x::ds) (.bool x::ai)
 | s {x:List UInt8} {ds:List D} {ai:List V} (aj:x.length<=top) (t:cg F h ds ai):cg F h (.s x::ds) (.str x::ai)
 | l {size:Nat} {es:List (List D)} {v:V} {us:List (List V)} {ds:List D} {ai:List V} (aK:xd v) (aj:es.length<=top) (aL:e3 h size v es.length us.flatten) (hu:us.length=es.length) (bJ:∀u ∈ us,u.length=size)
    (kids:∀(i:Nat) (e:List D) (u:List V),es[i]? =some e->us[i]? =some u->cg F h e u) (aA:∀b,v.bh b->F b) (t:cg F h ds ai):cg F h (.l size es::ds) (v::ai)
structure ch (F:aU->Prop) (h:ah) (size:Nat) (es:List (List D)) (v:V):Prop where
 room:xd v
 le:es.length<=top
 ex:∃us:List (List V),e3 h size v es.length us.flatten/\us.length=es.length/\(∀u ∈ us,u.length=size)/\∀(i:Nat) (e:List D) (u:List V),es[i]? =some e->us[i]? =some u->cg F h e u
 yd:∀b,v.bh b->F b
section
variable {F:aU->Prop} {h ab:ah} {ds:List D} {ai:List V}
theorem cg.mod {dn M:aU->Prop} (m:Mod M h ab) (dE:∀b,F b->Old h b->¬M b/\dn b) (H:cg F h ds ai):cg dn ab ds ai:=by
 induction H with
 | nil=>exact .nil
 | i t bC=>exact .i bC
 | b t bC=>exact .b bC
 | s aj t bC=>exact .s aj bC
 | l aK aj aL hu bJ kids aA t ua sO=>exact .l aK aj (aL.mod m fun b q=>(dE b (aA b q) (aL.cJ q)).1) hu bJ ua (fun b q=>(dE b (aA b q) (aL.cJ q)).2) sO
theorem cg.ext (H:cg F h ds ai) (e:Ext h ab):cg F ab ds ai:=by
 induction H with
 | nil=>exact .nil
 | i t bC=>exact .i bC
 | b t bC=>exact .b bC
 | s aj t bC=>exact .s aj bC
 | l aK aj aL hu bJ kids aA t ua sO=>exact .l aK aj (aL.ext e) hu bJ ua aA sO
theorem cg.mX {dn:aU->Prop} (H:cg F h ds ai) (w:∀b,F b->dn b):cg dn h ds ai:=by
 induction H with
 | nil=>exact .nil
 | i t bC=>exact .i bC
 | b t bC=>exact .b bC
 | s aj t bC=>exact .s aj bC
 | l aK aj aL hu bJ kids aA t ua sO=>exact .l aK aj aL hu bJ ua (fun b q=>w b (aA b q)) sO
theorem cg.cJ (H:cg F h ds ai):cg (fun b=>F b/\Old h b) h ds ai:=by
 induction H with
 | nil=>exact .nil
 | i t bC=>exact .i bC
 | b t bC=>exact .b bC
 | s aj t bC=>exact .s aj bC
 | l aK aj aL hu bJ kids aA t ua sO=>exact .l aK aj aL hu bJ ua (fun b q=>⟨aA b q,aL.cJ q⟩) sO
theorem cg.fi (H:cg F h ds ai):fi ai=true:=by
 induction H with
 | nil=>rfl
 | i t bC=>simpa [Go.Proofs.YtefceblncmdkhaaGreatDoor.bb.fi,V.one] using bC
 | b t bC=>simpa [Go.Proofs.YtefceblncmdkhaaGreatDoor.bb.fi,V.one] using bC
 | s aj t bC=>simpa [Go.Proofs.YtefceblncmdkhaaGreatDoor.bb.fi,V.one] using bC
 | l aK aj aL hu bJ kids aA t ua sO=>simp only [Go.Proofs.YtefceblncmdkhaaGreatDoor.bb.fi,aL.one.1,sO,Bool.and_self]
theorem cg.int {k:IntKind} {n:Int} (H:cg F h (.i k n::ds) ai):∃us,ai=.int k n::us/\cg F h ds us:=by
 cases H with
 | i t=>exact ⟨_,rfl,t⟩
theorem cg.str {x:List UInt8} (H:cg F h (.s x::ds) ai):∃us,ai=.str x::us/\x.length<=top/\cg F h ds us:=by
 cases H with
 | s aj t=>exact ⟨_,rfl,aj,t⟩
theorem cg.dZ {size:Nat} {es:List (List D)} (H:cg F h (.l size es::ds) ai):∃v us,ai=v::us/\ch F h size es v/\cg F h ds us:=by
 cases H with
 | l aK aj aL hu bJ kids aA t=>exact ⟨_,_,rfl,⟨aK,aj,⟨_,aL,hu,bJ,kids⟩,aA⟩,t⟩
theorem cg.no (H:cg F h [] ai):ai=[]:=by cases H;rfl
end
theorem PZ {size:Nat}:∀(us:List (List V)) (i:Nat) (u:List V),(∀u ∈ us,u.length=size)->us[i]? =some u->(us.flatten.drop (i * size)).take size=u
 | [],i,u,_,h=>by simp at h
 | w::us,0,u,aw,h=>by simp only [anR,ant] at h;subst h;rw [Nat.zero_mul,aok,aoE,apx (aw _ (by simp))]
 | w::us,i+1,u,aw,h=>by rw [show (i+1) * size=size+i * size from by rw [apG,apy],<-aoK,aoE,List.drop_left' (aw _ (by simp))];exact PZ us i u (fun u hu=>aw u (by simp [hu])) (by simpa using h)
theorem P0 {size:Nat}:∀(us:List (List V)),(∀u ∈ us,u.length=size)->us.flatten.length=us.length * size
 | [],_=>by simp
 | w::us,aw=>by rw [aoE,anw,aw w (by simp),P0 us (fun u hu=>aw u (by simp [hu])),anz,apG,apy]
section
variable {F:aU->Prop} {h ab:ah} {size:Nat} {es:List (List D)} {v:V}
theorem ch.cons {ds:List D} {ai:List V} (H:ch F h size es v) (t:cg F h ds ai):cg F h (.l size es::ds) (v::ai):=by obtain ⟨us,a,b,c,d⟩:=H.ex;exact .l H.room H.le a b c d H.yd t
theorem ch.ext (H:ch F h size es v) (e:Ext h ab):ch F ab size es v:=by obtain ⟨us,a,b,c,d⟩:=H.ex;exact ⟨H.room,H.le,⟨us,a.ext e,b,c,fun i x u ag av=>(d i x u ag av).ext e⟩,H.yd⟩
theorem ch.mod {dn M:aU->Prop} (m:Mod M h ab) (dE:∀b,F b->Old h b->¬M b/\dn b) (H:ch F h size es v):ch dn ab size es v:=by obtain ⟨us,a,b,c,d⟩:=H.ex;exact ⟨H.room,H.le,⟨us,a.mod m fun x q=>(dE x (H.yd x q) (a.cJ q)).1,b,c,fun i x u ag av=>(d i x u ag av).mod m dE⟩,fun x q=>(dE x (H.yd x q) (a.cJ q)).2⟩
theorem ch.mX {dn:aU->Prop} (H:ch F h size es v) (w:∀b,F b->dn b):ch dn h size es v:=by obtain ⟨us,a,b,c,d⟩:=H.ex;exact ⟨H.room,H.le,⟨us,a,b,c,fun i x u ag av=>(d i x u ag av).mX w⟩,fun b q=>w b (H.yd b q)⟩
theorem ch.len (H:ch F h size es v):mb v=some (.int .i64 es.length):=by obtain ⟨us,a,_⟩:=H.ex;exact a.len
theorem ch.one (H:ch F h size es v):v.one=true/\v.cells=[v]/\v.fR=true:=by obtain ⟨us,a,_⟩:=H.ex;exact a.one
theorem ch.nil (F:aU->Prop) (h:ah) (size:Nat):ch F h size [] .cr:=⟨fun b o l c e=>(by cases e),apj _,⟨[],⟨by simp,rfl⟩,rfl,fun u hu=>(by cases hu),fun i e u q=>(by simp at q)⟩,fun b q=>q.elim⟩
theorem ch.at (H:ch F h size es v) {k:IntKind} {i:Nat} (au:i<es.length):
 ∃b off u,iD size v (.int k i)=some (.ptr b (off+i * size))/\cg F h es[i] u/\u.length=size/\(∀ab,Ext h ab->o0 size (ab.get b) (off+i * size)=some (.agg u))/\∀ab,Ext h ab->∀j,j<size->jL (ab.get b) (off+i * size+j)=u[j]? :=by
 obtain ⟨us,J,ad,aw,aC⟩:=H.ex;have QI:i<us.length:=by omega
 have hu:=anv QI;obtain ⟨b,off,al,aN⟩:=J.dj (k:=k) au;have aA:=PZ us i _ aw hu;have l2:=P0 us aw;have hle:i * size+size<=us.length * size:=by have:=aoj size (show i+1<=us.length by omega);rw [apG] at this;exact this
 have Rl:us[i].length=size:=aw _ (anB QI);refine ⟨b,off,us[i],al,aC i _ _ (anv au) hu,Rl,fun ab e=>?_,fun ab e j bI=>?_⟩
 . rw [(aN.ext e).jM (i:=i * size) (n:=size) (by omega),aA]
 . rw [aoH,(aN.ext e).ep (i:=i * size+j) (by omega)];have:((us.flatten.drop (i * size)).take size)[j]? =us[i][j]? :=by rw [aA]
   rw [aox bI,aoJ] at this;rw [<-this,anv (by omega)]
end
def Any (_:aU):Prop:=True
theorem US:∀{ms:List Nat},(∀(i k:Nat),ms[i]? =some k->1<=k)->ms.length<=ms.sum
 | [],_=>anD _
 | m::ms,h=>by have a6:=h 0 m rfl;have:=US (ms:=ms) fun i k q=>h (i+1) k (by simpa using q);simp only [anz,apz];omega
theorem UR:∀{ms:List Nat} {i k:Nat},ms[i]? =some k->k<=ms.sum
 | [],_,_,h=>by simp at h
 | m::ms,0,k,h=>by simp only [anR,ant] at h;subst h;simp only [apz];omega
 | m::ms,i+1,k,h=>by have:=UR (ms:=ms) (i:=i) (k:=k) (by simpa using h);simp only [apz];omega
structure Has (h:ah) (n:Nat) (l:List V):Prop where
 lt:n<h.next
 g:h.get (aD n)=.a_ l 0 false
theorem Has.ext {h ab:ah} {n:Nat} {l:List V} (B:Has h n l) (e:Ext h ab):Has ab n l:=⟨ao3 B.lt e.next,(e.get _ (hE B.lt)).trans B.g⟩
theorem f' (h:ah) (l:List V):∃H,h.new (.a_ l 0 false)=H/\Ext h H/\Has H h.next l:=⟨_,rfl,(Ext.refl h).new _,by rw [gI];omega,jD _⟩
theorem je (h:ah) (z l:List V):∃H,(h.new (.a_ z 0 false)).set (aD h.next) (.a_ l 0 false)=H/\Ext h H/\Has H h.next l:=
 ⟨_,rfl,((Ext.refl h).new _).set (anD _) _,by rw [o3,gI];omega,by rw [fh,anL rfl]⟩
theorem Has.put {h:ah} {n:Nat} {l:List V} (B:Has h n l) (gm:List V):Has (h.set (aD n) (.a_ gm 0 false)) n gm:=⟨by rw [o3];exact B.lt,by rw [fh,anL rfl]⟩
theorem ch.set {F:aU->Prop} {h:ah} {size:Nat} {es:List (List D)} {v:V} (H:ch F h size es v) {b:aU} (aj:¬F b) (k:cn):ch F (h.set b k) size es v:=
 H.mod ((Mod.refl (fun x=>x=b) h).set (fun _=>rfl) k) fun x q _=>⟨fun e=>aj (e ▸ q),q⟩
theorem cg.Co {F:aU->Prop} {h:ah} {ds:List D} {ai:List V} (H:cg F h ds ai):cg (Old h) h ds ai:=H.cJ.mX fun _ q=>q.2
theorem ch.Co {F:aU->Prop} {h:ah} {size:Nat} {es:List (List D)} {v:V} (H:ch F h size es v):ch (Old h) h size es v:=by obtain ⟨us,a,b,c,d⟩:=H.ex;exact ⟨H.room,H.le,⟨us,a,b,c,fun i x u ag av=>(d i x u ag av).Co⟩,fun b q=>a.cJ q⟩
theorem iI {i n:Nat} (h:i<n) (aX:n<=4611686018427387904):IntKind.i64.wrap ((i:Int)+1)=((i+1:Nat):Int):=by rw [wrap_i64 (by omega) (by omega)];rfl
def nZ (i:Int):List D:=[.i .i64 i]
theorem ch.JE {F:aU->Prop} {h:ah} {l:List Int} {v:V} (H:ch F h 1 (l.map nZ) v) {k:IntKind} {i:Nat} (au:i<l.length):
 ∃b off,iD 1 v (.int k i)=some (.ptr b (off+i * 1))/\∀ab,Ext h ab->jL (ab.get b) (off+i * 1)=some (.int .i64 l[i]):=by
 obtain ⟨b,off,u,al,aN,cj,_,gl⟩:=H.at (k:=k) (i:=i) (by rw [anK];exact au);rw [List.getElem_map,nZ] at aN;obtain ⟨us,rfl,jf⟩:=cg.int aN;obtain rfl:=jf.no;exact ⟨b,off,al,fun ab e=>by simpa using gl ab e 0 (by omega)⟩
end
section
open Go Go.RowKit
variable [Lay]
def k0 (n:Nat) (b:aU):aU:=aD (n+cY b)
mutual
def V.df (n:Nat):V->V
 | .ptr b o=>.ptr (k0 n b) o
 | .slice b o l c=>.slice (k0 n b) o l c
 | .et b o l c=>.et (k0 n b) o l c
 | .gV b o l c=>.gV (k0 n b) o l c
 | .map b=>.map (k0 n b)
 | .func f cs=>.func f (lL n cs)
 | .kW f cs=>.kW f (lL n cs)
 | .iface t v=>.iface t (v.df n)
 | .agg cs=>.agg (lL n cs)
 | .tuple cs=>.tuple (lL n cs)
 | .bad=>.bad | .bool b=>.bool b | .int k i=>.int k i | .str s=>.str s | .mg=>.mg | .cr=>.cr | .lB=>.lB | .ow=>.ow | .nilIface=>.nilIface
def lL (n:Nat):List V->List V
 | []=>[]
 | v::ai=>v.df n::lL n ai
end
theorem UA (n:Nat):∀l:List V,lL n l=l.map (V.df n)
 | []=>by simp [lL]
 | v::l=>by rw [lL,UA n l,aow]
def cM.df (n:Nat) (m:cM):cM:=⟨m.k.df n,m.v.df n,m.born⟩
def cn.df (n:Nat):cn->cn
 | .cells m cs cH st=>.a_ ((ie cs 0 m).map (V.df n)) cH st
 | .iter s pos=>.iter s pos
 | .mp es clock=>.mp (es.map (cM.df n)) clock
 | .iF es=>.iF (es.map (cM.df n))
 | _=>.dead
def ah.q7 (h ao:ah):Nat->ah
 | 0=>h
 | k+1=>(h.q7 ao k).new ((ao.get (aD k)).df h.next)
theorem xS (h ao:ah):∀k,(h.q7 ao k).next=h.next+k
 | 0=>rfl
 | k+1=>by rw [ah.q7,gI,xS h ao k];omega
theorem L' (h ao:ah):∀k,Ext h (h.q7 ao k)
 | 0=>Ext.refl h
 | k+1=>(L' h ao k).new _
theorem G5 (h ao:ah):∀(k i:Nat),i<k->(h.q7 ao k).get (aD (h.next+i))=(ao.get (aD i)).df h.next
 | 0,i,au=>absurd au (by omega)
 | k+1,i,au=>by
   rw [ah.q7,jC,xS];by_cases e:i=k
   . subst e;rw [anL rfl]
   . rw [anE (fun q=>e (by have:=lE q;omega)),G5 h ao k i (by omega)]
theorem L_ (h ao:ah) (b:aU):∀(k:Nat),(cY b<h.next\/h.next+k<=cY b)->(h.q7 ao k).get b=h.get b
 | 0,_=>rfl
 | k+1,aj=>by rw [ah.q7,jC,xS,anE (fun q=>by subst q;rw [ee] at aj;omega)];exact L_ h ao b k (by omega)
def ah.app (h ao:ah):ah:=h.q7 ao ao.next
def pb (h ao:ah) (E aI:Env):Env:=fun b=>if h.next<=cY b/\cY b<h.next+ao.next then aI (aD (cY b-h.next)) else E b
section
variable {aB:Fr} {E aI:Env} {h ao:ah} {w b1:World}
theorem G4 (s:bd aB E h w):E.le (pb h ao E aI):=fun b p q=>by
 unfold pb;rw [anE]
 . exact q
 . rintro ⟨J,_⟩;have:=s.fresh (cY b) J;rw [uI] at this;rw [this] at q;cases q
theorem sc (s2:bd ⟨w,fun _=>none⟩ aI ao b1) {b:aU} {p:jb} (q:aI b=some p):pb h ao E aI (k0 h.next b)=some p:=by
 unfold pb k0;have aH:cY b<ao.next:=by
  rcases aoG (cY b) ao.next with av | av
  . exact av
  . have:=s2.fresh _ av;rw [uI,q] at this;cases this
 rw [ee,anL ⟨by omega,by omega⟩,show h.next+cY b-h.next=cY b from by omega,uI];exact q
mutual
theorem s5 (s2:bd ⟨w,fun _=>none⟩ aI ao b1):∀(v:V) (x:Value),Rel aI v x->Rel (pb h ao E aI) (v.df h.next) x
 | .bad,x,q=>by simp only [V.df,Rel]
 | .bool _,x,q=>by simpa only [V.df,Rel] using q
 | .int _ _,x,q=>by simpa only [V.df,Rel] using q
 | .str _,x,q=>by simpa only [V.df,Rel] using q
 | .mg,x,q=>by simpa only [V.df,Rel] using q
 | .cr,x,q=>by simpa only [V.df,Rel] using q
 | .lB,x,q=>by simpa only [V.df,Rel] using q
 | .ow,x,q=>by simpa only [V.df,Rel] using q
 | .nilIface,x,q=>by simpa only [V.df,Rel] using q
 | .ptr b o,x,q=>by simp only [V.df,Rel] at q ⊢;obtain ⟨p,ag,av⟩:=q;exact ⟨p,sc s2 ag,av⟩
 | .slice b o l c,x,q=>by simp only [V.df,Rel] at q ⊢;obtain ⟨p,ag,av⟩:=q;exact ⟨p,sc s2 ag,av⟩
 | .et b o l c,x,q=>by simp only [V.df,Rel] at q ⊢;obtain ⟨p,ag,av⟩:=q;exact ⟨p,sc s2 ag,av⟩
 | .gV b o l c,x,q=>by simpa only [V.df,Rel] using q
 | .map b,x,q=>by simp only [V.df,Rel] at q ⊢;obtain ⟨p,ag,av⟩:=q;exact ⟨p,sc s2 ag,av⟩
 | .func f cs,x,q=>by
   simp only [V.df,Rel] at q ⊢;rcases q with ⟨ag,a,av,aJ⟩ | ⟨ag,b,p,rfl,aJ,bU⟩
   . exact .inl ⟨ag,a,av,CG s2 cs _ aJ⟩
   . exact .inr ⟨ag,k0 h.next b,p,by simp only [lL,V.df],sc s2 aJ,bU⟩
 | .kW f cs,x,q=>by simp only [V.df,Rel] at q ⊢;obtain ⟨ag,a,av,aJ⟩:=q;exact ⟨ag,a,av,CG s2 cs _ aJ⟩
 | .iface t v,x,q=>by simp only [V.df,Rel] at q ⊢;obtain ⟨y,ag,av⟩:=q;exact ⟨y,ag,s5 s2 v y av⟩
 | .agg cs,x,q=>by simp only [V.df,Rel] at q ⊢;obtain ⟨a,ag,av⟩:=q;exact ⟨a,ag,CG s2 cs _ av⟩
 | .tuple cs,x,q=>by simp only [V.df,Rel] at q ⊢;obtain ⟨a,ag,av⟩:=q;exact ⟨a,ag,CG s2 cs _ av⟩
theorem CG (s2:bd ⟨w,fun _=>none⟩ aI ao b1):∀(v:List V) (x:List Value),bm aI v x->bm (pb h ao E aI) (lL h.next v) x
 | [],x,q=>by simpa only [lL,bm] using q
 | v::ai,x,q=>by simp only [lL,bm] at q ⊢;obtain ⟨y,cT,ag,av,aJ⟩:=q;exact ⟨y,cT,ag,s5 s2 v y av,CG s2 ai cT aJ⟩
end
theorem SP (s2:bd ⟨w,fun _=>none⟩ aI ao b1):∀(v:List cM) (x:List MapEntry),e_ aI v x->e_ (pb h ao E aI) (v.map (cM.df h.next)) x
 | [],x,q=>by simpa only [apH,e_] using q
 | v::ai,x,q=>by simp only [aow,e_,cM.df] at q ⊢;obtain ⟨y,cT,ag,av,aJ,bU,cX⟩:=q;exact ⟨y,cT,ag,s5 s2 _ _ av,s5 s2 _ _ aJ,bU,SP s2 ai cT cX⟩
theorem Vc (s2:bd ⟨w,fun _=>none⟩ aI ao b1):∀(v:List cM) (x:List MapEntry),lU aI v x->lU (pb h ao E aI) (v.map (cM.df h.next)) x
 | [],x,q=>by simpa only [apH,lU] using q
 | v::ai,x,q=>by simp only [aow,lU,cM.df] at q ⊢;obtain ⟨y,cT,ag,av,aJ,cX⟩:=q;exact ⟨y,cT,ag,s5 s2 _ _ av,s5 s2 _ _ aJ,Vc s2 ai cT cX⟩
theorem Eb (cs:T V):∀(n off i:Nat),i<n->(ie cs off n)[i]? =some (T.get .bad (aD (off+i)) cs)
 | 0,_,i,au=>absurd au (by omega)
 | n+1,off,0,_=>by simp [ie]
 | n+1,off,i+1,au=>by rw [ie,aov,Eb cs n (off+1) i (by omega)];congr 3;omega
theorem W9 (hw:aB.w.heap.size<=w.heap.size) (s2:bd ⟨w,fun _=>none⟩ aI ao b1) {b:aU} {k:cn} (H:hl w.heap.size aI b1 b k):hl aB.w.heap.size (pb h ao E aI) b1 (k0 h.next b) (k.df h.next):=by
 cases k with
 | cells n cs cH st=>
   obtain ⟨aX,p,c,el,b5,J,ad,aC,bn,b0,eo,fl⟩:=H;have aw:((ie cs 0 n).map (V.df h.next)).length=n:=by rw [anK,vN]
   refine ⟨by rw [aw];exact aX,p,c,el,b5,sc s2 J,aol hw ad,aC,bn,b0,eo,by rw [aw];exact fl.1,fun i y au bc=>?_⟩;rw [aw] at au;have:=A3 ((ie cs 0 n).map (V.df h.next)) 0 i .e;rw [an8,anL (by rw [aw];exact au),aoo,Eb cs n 0 i au] at this;rw [this];simp only [ao2,aoZ,an8];exact s5 s2 _ _ (fl.2 i y au bc)
 | iter st pos=>
   obtain ⟨p,J,ad,aC⟩:=H;exact ⟨p,sc s2 J,aol hw ad,aC⟩
 | mp es clock=>
   obtain ⟨p,a,J,ad,aC,bn⟩:=H;exact ⟨p,a,sc s2 J,aol hw ad,aC,SP s2 _ _ bn⟩
 | iF es=>
   obtain ⟨p,a,c,l,J,ad,aC,bn,b0⟩:=H;exact ⟨p,a,c,l,sc s2 J,aol hw ad,aC,Vc s2 _ _ bn,b0⟩
 | _=>trivial
theorem Fu {k:cn} {n:Nat} (H:(k.df n).own=true):k.own=true:=by cases k<;>simp_all [cn.df,cn.own]
theorem To {B:Nat} {b:aU} {k:cn} {p:jb} (H:hl B E w b k) (a1:k.own=true) (q:E b=some p):B<=p.bh/\p.bh<w.heap.size:=by
 have lt:∀{o:Obj},w.heap[p.bh]? =some o->p.bh<w.heap.size:=fun {o} q=>by
  rcases aoG p.bh w.heap.size with av | av
  . exact av
  . rw [aoX av] at q;cases q
 cases k with
 | cells n cs cH st=>
   obtain ⟨_,p',c,el,b5,J,ad,aC,_⟩:=H;rw [q] at J;cases J;exact ⟨ad,lt aC⟩
 | iter st pos=>
   obtain ⟨p',J,ad,_,aC⟩:=H;rw [q] at J;cases J;exact ⟨ad,lt aC⟩
 | mp es clock=>
   obtain ⟨p',a,J,ad,aC,_⟩:=H;rw [q] at J;cases J;exact ⟨ad,lt aC⟩
 | iF es=>
   obtain ⟨p',a,c,l,J,ad,aC,_⟩:=H;rw [q] at J;cases J;exact ⟨ad,lt aC⟩
 | gx l=>
   obtain ⟨p',o,J,ad,aC,_⟩:=H;rw [q] at J;cases J;exact ⟨ad,lt aC⟩
 | gp=>
   obtain ⟨p',J,ad,aC⟩:=H;rw [q] at J;cases J;exact ⟨ad,lt aC⟩
 | ki src since seen last=>
   obtain ⟨p',m,a,J,ad,_,aC,_⟩:=H;rw [q] at J;cases J;exact ⟨ad,lt aC⟩
 | dead=>cases a1
 | view n cs=>cases a1
theorem UC (s:bd aB E h w) (s2:bd ⟨w,fun _=>none⟩ aI ao b1):bd aB (pb h ao E aI) (h.app ao) b1:=by
 have Uv:=s.below s2.frame;have hw:aB.w.heap.size<=w.heap.size:=s.frame.size;have cs:∀b,(h.next<=cY b/\cY b<h.next+ao.next/\∃i,i<ao.next/\b=k0 h.next (aD i)/\(h.app ao).get b=(ao.get (aD i)).df h.next/\pb h ao E aI b=aI (aD i))\/
  ((cY b<h.next\/h.next+ao.next<=cY b)/\(h.app ao).get b=h.get b/\pb h ao E aI b=E b):=fun b=>by
  by_cases q:h.next<=cY b/\cY b<h.next+ao.next
  . refine .inl ⟨q.1,q.2,cY b-h.next,by omega,?_,?_,anL q⟩
    . unfold k0;rw [ee,show h.next + (cY b-h.next)=cY b from by omega,uI]
    . have:=G5 h ao ao.next (cY b-h.next) (by omega)
      rw [show h.next + (cY b-h.next)=cY b from by omega,uI] at this;exact this
  . exact .inr ⟨by omega,L_ h ao b _ (by omega),anE q⟩
 have Ta:∀b p,(h.get b).own=true->E b=some p->p.bh<w.heap.size:=fun b p a1 q=>by have aj:hl aB.w.heap.size E w b (h.get b):=s.at q;exact (To aj a1 q).2
 have SV:∀i p,(ao.get (aD i)).own=true->aI (aD i)=some p->w.heap.size<=p.bh:=fun i p a1 q=>(To (s2.bh _ rfl) a1 q).1;refine ⟨fun b aj=>?_,fun b k ay=>?_,fun b bV p p' dc c0 al aN ak=>?_,fun i au=>?_,Uv.frame,s.laid,fun b p n c st an he=>?_⟩
 . rcases cs b with ⟨_,_,i,au,rfl,al,aN⟩ | ⟨_,al,aN⟩
   . rw [al];exact W9 hw s2 (s2.bh _ rfl)
   . rw [al];exact (Uv.bh b aj).mono (G4 s)
 . obtain ⟨ag,av,i,au,rfl⟩:=s.pM b k ay;rcases cs (aD i) with ⟨bW,_⟩ | ⟨_,al,aN⟩
   . rw [ee] at bW;omega
   . refine ⟨al.trans ag,aN.trans av,i,?_,rfl⟩;show i < (h.q7 ao ao.next).next
     rw [xS];omega
 . rcases cs b with ⟨_,_,i,au,rfl,g1,g2⟩ | ⟨_,g1,g2⟩<;>rcases cs bV with ⟨_,_,j,bI,rfl,g3,g4⟩ | ⟨_,g3,g4⟩
   . rw [g1] at dc;rw [g3] at c0;rw [g2] at al;rw [g4] at aN;rw [s2.inj _ _ _ _ (Fu dc) (Fu c0) al aN ak]
   . rw [g1] at dc;rw [g3] at c0;rw [g2] at al;rw [g4] at aN;have a:=SV _ _ (Fu dc) al;have b:=Ta _ _ c0 aN;omega
   . rw [g1] at dc;rw [g3] at c0;rw [g2] at al;rw [g4] at aN;have a:=SV _ _ (Fu c0) aN;have b:=Ta _ _ dc al;omega
   . rw [g1] at dc;rw [g3] at c0;rw [g2] at al;rw [g4] at aN;exact s.inj _ _ _ _ dc c0 al aN ak
 . have aX:(h.app ao).next=h.next+ao.next:=xS h ao ao.next
   rw [aX] at au;rcases cs (aD i) with ⟨bW,cu,_⟩ | ⟨_,al,aN⟩
   . rw [ee] at cu;omega
   . rw [aN];exact s.fresh i (by omega)
 . rcases cs b with ⟨_,_,i,au,rfl,g1,g2⟩ | ⟨_,g1,g2⟩
   . rw [g2] at he;cases ay:ao.get (aD i) with
     | cells eN hY ama am9=>
       rw [g1,ay] at an;simp only [cn.df,cn.a_,cn.cells.injEq] at an;obtain ⟨_,_,q,_⟩:=an;subst q;exact s2.base _ _ _ _ _ ay he
     | _=>rw [g1,ay] at an;simp [cn.df] at an
   . rw [g1] at an;rw [g2] at he;exact s.base _ _ _ _ _ an he
end
theorem Zu {C:Ctx} (dE:C.P.follows .mixedOrders=true) (aM:fa C.P) (hC:p9 C) {n:Nat} {f:FuncId} {ao:ah} {v:V} (aA:Nat.beq f dy=false) (ar:C.ext f=none) (ig:∃fn,C.P.funcs[f]? =some fn/\fn.body.isSome=true)
 (he:sj C n f [] ah.empty=.val v ao) (h:ah):ff C.P f [] h (v.df h.next) (h.app ao):=by
 refine ⟨fun e=>by subst e;simp at aA,.inl ⟨ig,fun aB E w xs aw s=>?_⟩⟩;simp only [bm] at aw;subst aw;obtain ⟨_,kv⟩:=Hx dE aM hC aA ar he (aB:=⟨w,fun _=>none⟩) (E:=fun _=>none) (w:=w) (xs:=[]) rfl (F7 w (Lay.gw s.laid s.frame));refine kv.mono fun e w' aq=>?_;obtain ⟨ax,x,rfl,_,av,aJ⟩:=aq;exact ⟨_,x,rfl,G4 s,s5 aJ _ _ av,UC s aJ⟩
theorem Ma (h ao:ah):Ext h (h.app ao):=L' h ao _
theorem G9 (h ao:ah) {i:Nat} (au:i<ao.next):(h.app ao).get (aD (h.next+i))=(ao.get (aD i)).df h.next:=G5 h ao _ i au
theorem Mb (h ao:ah):(h.app ao).next=h.next+ao.next:=xS h ao _
end
section
open Go Go.RowKit
variable [Lay]
def JN:IntKind->IntKind->Bool
 | .i8,.i8 | .i16,.i16 | .i32,.i32 | .i64,.i64 | .u8,.u8 | .u16,.u16 | .u32,.u32 | .u64,.u64=>true
 | _,_=>false
theorem RQ {a b:IntKind} (h:JN a b=true):a=b:=by cases a<;>cases b<;>first | rfl | cases h
def t':Int->Int->Bool
 | .ofNat a,.ofNat b=>Nat.beq a b
 | .negSucc a,.negSucc b=>Nat.beq a b
 | _,_=>false
theorem EG {a b:Int} (h:t' a b=true):a=b:=by cases a<;>cases b<;>simp only [t'] at h<;>first | (rw [aom h]) | (cases h)
def Mr:Bool->Bool->Bool
 | true,true | false,false=>true
 | _,_=>false
theorem WX {a b:Bool} (h:Mr a b=true):a=b:=by cases a<;>cases b<;>first | rfl | cases h
def F5:List UInt8->List UInt8->Bool
 | [],[]=>true
 | a::Mo,b::fN=>Nat.beq a.toNat b.toNat&&F5 Mo fN
 | _,_=>false
theorem Us:∀{a b:List UInt8},F5 a b=true->a=b
 | [],[],_=>rfl
 | [],_::_,h=>by cases h
 | _::_,[],h=>by cases h
 | a::Mo,b::fN,h=>by simp only [F5,anu] at h;rw [Us h.2,apu.1 (aom h.1)]
def Fl (nh:List D->List V->Bool) (size:Nat):List (List D)->List V->Bool
 | [],pn=>(match pn with | []=>true | _=>false)
 | e::es,pn=>Nat.beq (pn.take size).length size&&nh e (pn.take size)&&Fl nh size es (pn.drop size)
def Kq (ao:ah) (nh:List D->List V->Bool) (size:Nat) (es:List (List D)):V->Bool
 | .cr=>(match es with | []=>true | _=>false)
 | .slice b off len cap=>Nat.beq len es.length&&Nat.ble len cap&&Nat.ble len top&&Nat.blt (cY b) ao.next&&(match ao.get b with
   | .cells n cs _ _=>Nat.ble (off+len * size) n&&Fl nh size es (ie cs off (len * size))
   | _=>false)
 | _=>false
def Cl (ao:ah):Nat->List D->List V->Bool
 | 0,_,_=>false
 | f+1,ds,ai=>match ds with
   | []=>(match ai with | []=>true | _=>false)
   | d::ds=>match ai with
     | []=>false
     | v::ai=>(match d with
       | .i k n=>(match v with | .int bu eN=>JN k bu&&t' n eN | _=>false)
       | .b x=>(match v with | .bool y=>Mr x y | _=>false)
       | .s x=>(match v with | .str y=>F5 x y&&Nat.ble x.length top | _=>false)
       | .l size es=>Kq ao (Cl ao f) size es v)&&Cl ao f ds ai
section
variable {h ao:ah}
def uC (h ao:ah) (b:aU):Prop:=h.next<=cY b/\cY b<h.next+ao.next
theorem S7 {nh:List D->List V->Bool} {size:Nat}:∀{es:List (List D)} {pn:List V},Fl nh size es pn=true->
 ∃us:List (List V),pn=us.flatten/\us.length=es.length/\(∀u ∈ us,u.length=size)/\∀(i:Nat) (e:List D) (u:List V),es[i]? =some e->us[i]? =some u->nh e u=true
 | [],pn,H=>by
   cases pn with
   | nil=>exact ⟨[],rfl,rfl,fun u q=>(by cases q),fun i e u q=>(by simp at q)⟩
   | cons _ _=>cases H
 | e::es,pn,H=>by
   simp only [Fl,anu] at H;obtain ⟨us,ag,av,aJ,bU⟩:=S7 H.2;refine ⟨pn.take size::us,by rw [aoE,<-ag,ao1],by simp [av],fun u hu=>?_,fun i x u al aN=>?_⟩
   . rcases an2.1 hu with rfl | hu
     . exact aom H.1.1
     . exact aJ u hu
   . cases i with
     | zero=>
       simp only [anR,ant] at al aN;subst al aN;exact H.1.2
     | succ i=>exact bU i x u (by simpa using al) (by simpa using aN)
theorem abe (cs:T V) (n off m:Nat) (hm:off+m<=n):((ie cs 0 n).drop off).take m=ie cs off m:=by
 apply List.ext_getElem?;intro i;by_cases au:i<m
 . rw [aox au,aoJ,Eb cs n 0 _ (by omega),Eb cs m off i au,an8]
 . rw [an3 (by rw [aod,an1,vN];omega),an3 (by rw [vN];omega)]
theorem aif {nh:List D->List V->Bool} (ay:∀ds ai,nh ds ai=true->cg (uC h ao) (h.app ao) ds (lL h.next ai)) {size:Nat} {es:List (List D)} {v:V} (H:Kq ao nh size es v=true):
 ch (uC h ao) (h.app ao) size es (v.df h.next):=by
 cases v<;>simp only [Kq] at H<;>try (cases H;done)
 case cr=>
  cases es with
  | nil=>exact ch.nil _ _ _
  | cons _ _=>cases H
 case slice b off len cap=>
  simp only [anu] at H;obtain ⟨⟨⟨⟨J,ad⟩,aC⟩,bn⟩,b0⟩:=H;have J:=aom J;have ad:=an9 ad;have aC:=an9 aC;have bn:cY b<ao.next:=an9 bn
  cases an:ao.get b<;>rw [an] at b0<;>simp only at b0<;>try (cases b0;done)
  rename_i n cs cH st;simp only [anu] at b0;have eo:=an9 b0.1;obtain ⟨us,ag,av,aJ,bU⟩:=S7 b0.2;subst J;have sw:(h.app ao).get (k0 h.next b)=.a_ ((ie cs 0 n).map (V.df h.next)) cH st:=by have:=G9 h ao bn;rw [uI,an] at this;exact this
  have l2:(us.map (List.map (V.df h.next))).flatten=us.flatten.map (V.df h.next):=by rw [List.map_flatten]
  have hlen:us.flatten.length=es.length * size:=by rw [<-ag,vN]
  refine ⟨fun bV o l c e=>(by cases e;exact ad),aC,⟨us.map (List.map (V.df h.next)),⟨by rw [l2,anK,hlen],rfl,?_,_,.inr ⟨cH,st,sw⟩,?_,?_⟩,by rw [anK,av],fun u hu=>?_,fun i e u al aN=>?_⟩,fun bV q=>?_⟩
  . unfold Old k0;rw [ee,Mb];omega
  . rw [l2,anK,anK,vN,hlen];exact eo
  . rw [l2,anK,hlen,<-apL,<-aps,abe cs n off _ eo,ag]
  . obtain ⟨e1,hR,rfl⟩:=List.mem_map.1 hu;rw [anK];exact aJ e1 hR
  . rw [aoo] at aN;cases aq:us[i]? with
    | none=>rw [aq] at aN;cases aN
    | some e1=>
      rw [aq] at aN;simp only [ao2,ant] at aN;subst aN;rw [<-UA];exact ay _ _ (bU i e e1 al aq)
  . simp only [V.df,V.bh] at q;subst q;unfold uC k0;rw [ee];exact ⟨by omega,by omega⟩
theorem Ko:∀{f:Nat} {ds:List D} {ai:List V},Cl ao f ds ai=true->cg (uC h ao) (h.app ao) ds (lL h.next ai)
 | 0,_,_,H=>by cases H
 | f+1,ds,ai,H=>by
   cases ds with
   | nil=>
     cases ai with
     | nil=>exact .nil
     | cons _ _=>cases H
   | cons d ds=>
     cases ai with
     | nil=>cases H
     | cons v ai=>
       simp only [Cl,anu] at H;have t:=Ko (f:=f) H.2;have H1:=H.1;rw [lL];cases d with
       | i k n=>
         cases v<;>simp only at H1<;>try (cases H1;done)
         simp only [anu] at H1;rw [RQ H1.1,EG H1.2];simp only [V.df];exact .i t
       | b x=>
         cases v<;>simp only at H1<;>try (cases H1;done)
         rw [WX H1];simp only [V.df];exact .b t
       | s x=>
         cases v<;>simp only at H1<;>try (cases H1;done)
         simp only [anu] at H1;rw [<-Us H1.1];simp only [V.df];exact .s (an9 H1.2) t
       | l size es=>exact (aif (fun ds ai q=>Ko (f:=f) q) H1).cons t
end
def mQ (k:Int):List (Int × List D)->Option (List D)
 | []=>none
 | (n,d)::l=>if k=n then some d else mQ k l
inductive k3 (F:aU->Prop) (h:ah):List (Int × List D)->List cM->Prop
 | nil:k3 F h [] []
 | cons {n:Int} {ds:List D} {y:V} {born:Nat} {eH:List (Int × List D)} {es:List cM} (aZ:cg F h ds y.cells) (t:k3 F h eH es):k3 F h ((n,ds)::eH) (⟨.int .i64 n,y,born⟩::es)
structure kN (F:aU->Prop) (h:ah) (eH:List (Int × List D)) (v:V):Prop where
 ex:∃b es,v=.map b/\Old h b/\((∃clock,h.get b=.mp es clock)\/h.get b=.iF es/\(eH.map Prod.fst).Nodup)/\k3 F h eH es/\F b
section
variable {F:aU->Prop} {h ab:ah} {eH:List (Int × List D)} {es:List cM} {v:V}
theorem k3.ext (H:k3 F h eH es) (e:Ext h ab):k3 F ab eH es:=by
 induction H with
 | nil=>exact .nil
 | cons aZ t bC=>exact .cons (aZ.ext e) bC
theorem kN.ext (H:kN F h eH v) (e:Ext h ab):kN F ab eH v:=by obtain ⟨b,es,ag,av,aJ,bU,cX⟩:=H.ex;exact ⟨b,es,ag,e.cJ av,by rw [e.get b av];exact aJ,bU.ext e,cX⟩
theorem Un (k n:Int):nm.run (.int .i64 k) (.int .i64 n)=some (decide (k=n)):=by simp only [nm,V.e0,ph,anC,x4]
theorem k3.kQ (H:k3 F h eH es) (k:Int):(mQ k eH=none/\kQ nm (.int .i64 k) es=some none)\/∃ds y,mQ k eH=some ds/\cg F h ds y.cells/\Go.Proofs.YtefceblncmdkhaaGreatDoor.bb.kQ nm (.int .i64 k) es=some (some y):=by
 induction H with
 | nil=>exact .inl ⟨rfl,rfl⟩
 | @cons n ds y born eH es aZ t bC=>
   simp only [mQ,Go.Proofs.YtefceblncmdkhaaGreatDoor.bb.kQ,Un];by_cases q:k=n
   . subst q;simp only [an7,apk,anC];exact .inr ⟨ds,y,rfl,aZ,rfl⟩
   . simp only [q,an4,apo,anN];exact bC
theorem SD {k:Int} {ds:List D}:∀{eH:List (Int × List D)},mQ k eH=some ds->k ∈ eH.map Prod.fst
 | [],h=>by cases h
 | (n,d)::l,h=>by
   simp only [mQ] at h;by_cases q:k=n
   . subst q;simp
   . rw [anE q] at h;simp only [aow,an2];exact .inr (SD h)
theorem k3.kP (H:k3 F h eH es) (aX:(eH.map Prod.fst).Nodup) (k:Int):(mQ k eH=none/\kP nm (.int .i64 k) es=some none)\/∃ds y,mQ k eH=some ds/\cg F h ds y.cells/\Go.Proofs.YtefceblncmdkhaaGreatDoor.bb.kP nm (.int .i64 k) es=some (some y):=by
 induction H with
 | nil=>exact .inl ⟨rfl,rfl⟩
 | @cons n ds y born eH es aZ t bC=>
   simp only [aow,apJ] at aX;have bC:=bC aX.2;simp only [mQ,Go.Proofs.YtefceblncmdkhaaGreatDoor.bb.kP,Un];by_cases q:k=n
   . subst q;rcases bC with ⟨_,e⟩ | ⟨_,_,e,_⟩
     . simp only [e,an7,apk,anC];exact .inr ⟨ds,y,rfl,aZ,rfl⟩
     . exact absurd (SD e) aX.1
   . rcases bC with ⟨al,e⟩ | ⟨pg,qW,al,aN,e⟩
     . simp only [e,q,an4,apo,anN];exact .inl ⟨al,trivial⟩
     . simp only [e,q,an4,apo,anN];exact .inr ⟨pg,qW,al,aN,rfl⟩
theorem kN.look (H:kN F h eH v) (k:Int) (z:V) (ok:Bool):(mQ k eH=none/\kD nm z ok h v (.int .i64 k)=some (bif ok then .tuple [z,.bool false] else z))\/
 ∃ds y,mQ k eH=some ds/\cg F h ds y.cells/\kD nm z ok h v (.int .i64 k)=some (bif ok then .tuple [y,.bool true] else y):=by
 obtain ⟨b,es,rfl,_,aJ,bU,_⟩:=H.ex;rcases aJ with ⟨clock,aJ⟩ | ⟨aJ,aX⟩
 . rcases bU.kQ k with ⟨al,e⟩ | ⟨ds,y,al,aN,e⟩
   . exact .inl ⟨al,by simp only [kD,aJ,nF,rR,cn.lD,e]⟩
   . exact .inr ⟨ds,y,al,aN,by simp only [kD,aJ,nF,rR,cn.lD,e]⟩
 . rcases bU.kP aX k with ⟨al,e⟩ | ⟨ds,y,al,aN,e⟩
   . exact .inl ⟨al,by simp only [kD,aJ,e]⟩
   . exact .inr ⟨ds,y,al,aN,by simp only [kD,aJ,e]⟩
end
def Cm (ao:ah) (f:Nat):List (Int × List D)->List cM->Bool
 | [],es=>(match es with | []=>true | _=>false)
 | (n,ds)::eH,es=>(match es with
   | []=>false
   | m::es=>(match m.k with | .int k i=>JN k .i64&&t' i n | _=>false)&&Cl ao f ds m.v.cells&&Cm ao f eH es)
def Fg:List Int->Bool
 | []=>true
 | n::l=>(l.all fun m=>!t' n m)&&Fg l
def zm (ao:ah) (f:Nat) (eH:List (Int × List D)):V->Bool
 | .map b=>Nat.blt (cY b) ao.next&&Fg (eH.map Prod.fst)&&(match ao.get b with
   | .mp es _=>Cm ao f eH es
   | .iF es=>Cm ao f eH es
   | _=>false)
 | _=>false
theorem adM:∀n:Int,t' n n=true
 | .ofNat a=>apN a
 | .negSucc a=>apN a
theorem SW:∀{l:List Int},Fg l=true->l.Nodup
 | [],_=>List.nodup_nil
 | n::l,h=>by simp only [Fg,anu] at h;refine apJ.2 ⟨fun q=>?_,SW h.2⟩;have:=an0.1 h.1 n q;rw [adM] at this;cases this
theorem Zl (n:Nat) (v:V):(v.df n).cells=lL n v.cells:=by cases v<;>simp only [V.df,V.cells,lL]
section
variable {h ao:ah}
theorem Kp {f:Nat}:∀{eH:List (Int × List D)} {es:List cM},Cm ao f eH es=true->k3 (uC h ao) (h.app ao) eH (es.map (cM.df h.next))
 | [],es,H=>by
   cases es with
   | nil=>exact .nil
   | cons _ _=>cases H
 | (n,ds)::eH,es,H=>by
   cases es with
   | nil=>cases H
   | cons m es=>
     simp only [Cm,anu] at H;obtain ⟨⟨J,ad⟩,aC⟩:=H;obtain ⟨mk,bk,born⟩:=m;cases mk<;>simp only at J<;>try (cases J;done)
     simp only [anu] at J;rw [RQ J.1,EG J.2,aow];simp only [cM.df,V.df];exact .cons (by rw [Zl];exact Ko ad) (Kp aC)
theorem S9 {f:Nat} {eH:List (Int × List D)} {v:V} (H:zm ao f eH v=true):kN (uC h ao) (h.app ao) eH (v.df h.next):=by
 cases v<;>simp only [zm] at H<;>try (cases H;done)
 rename_i b;simp only [anu] at H;obtain ⟨⟨J,ad⟩,aC⟩:=H;have J:cY b<ao.next:=an9 J
 have an:=G9 h ao J;rw [uI] at an;have aj:uC h ao (k0 h.next b):=by unfold uC k0;rw [ee];exact ⟨by omega,by omega⟩
 have a1:Old (h.app ao) (k0 h.next b):=by unfold Old k0;rw [ee,Mb];omega
 cases ay:ao.get b<;>rw [ay] at aC<;>simp only at aC<;>try (cases aC;done)
 . rw [ay] at an;exact ⟨_,_,rfl,a1,.inl ⟨_,an⟩,Kp aC,aj⟩
 . rw [ay] at an;exact ⟨_,_,rfl,a1,.inr ⟨an,SW ad⟩,Kp aC,aj⟩
end
theorem k3.mX {F dn:aU->Prop} {h:ah} {eH:List (Int × List D)} {es:List cM} (H:k3 F h eH es) (w:∀b,F b->dn b):k3 dn h eH es:=by
 induction H with
 | nil=>exact .nil
 | cons aZ t bC=>exact .cons (aZ.mX w) bC
theorem kN.mX {F dn:aU->Prop} {h:ah} {eH:List (Int × List D)} {v:V} (H:kN F h eH v) (w:∀b,F b->dn b):kN dn h eH v:=by obtain ⟨b,es,ag,av,aJ,bU,cX⟩:=H.ex;exact ⟨b,es,ag,av,aJ,bU.mX w,w b cX⟩
def Cn (C:Ctx) (n:Nat) (f:FuncId) (nh:ah->V->Bool):Bool:=match sj C n f [] ah.empty with
 | .val v ao=>nh ao v
 | _=>false
def p8 (h:ah) (b:aU):Prop:=h.next<=cY b
section
variable {C:Ctx} (dE:C.P.follows .mixedOrders=true) (aM:fa C.P) (hC:p9 C) {n:Nat} {f:FuncId} (aA:Nat.beq f dy=false) (ar:C.ext f=none) (ig:∃fn,C.P.funcs[f]? =some fn/\fn.body.isSome=true)
include dE aM hC aA ar ig
theorem OU {nh:ah->V->Bool} (H:Cn C n f nh=true) (h:ah):∃v ao,nh ao v=true/\ff C.P f [] h (v.df h.next) (h.app ao):=by
 unfold Cn at H;cases ao:sj C n f [] ah.empty with
 | fail=>rw [ao] at H;cases H
 | c1 _ _=>rw [ao] at H;cases H
 | val v bp=>
   rw [ao] at H;exact ⟨v,bp,H,Zu dE aM hC aA ar ig ao h⟩
theorem Zt {m:Nat} {eH:List (Int × List D)} (H:Cn C n f (fun ao v=>zm ao m eH v)=true) (h:ah):b8 C.P f [] h fun x ab=>Ext h ab/\kN (p8 h) ab eH x:=by obtain ⟨v,ao,q,c⟩:=OU dE aM hC aA ar ig H h;exact ⟨_,_,c,Ma _ _,(S9 q).mX fun b q=>q.1⟩
end
theorem k3.mod {F dn M:aU->Prop} {h ab:ah} {eH:List (Int × List D)} {es:List cM} (m:Mod M h ab) (dE:∀b,F b->Old h b->¬M b/\dn b) (H:k3 F h eH es):k3 dn ab eH es:=by
 induction H with
 | nil=>exact .nil
 | cons aZ t bC=>exact .cons (aZ.mod m dE) bC
theorem kN.mod {F dn M:aU->Prop} {h ab:ah} {eH:List (Int × List D)} {v:V} (m:Mod M h ab) (dE:∀b,F b->Old h b->¬M b/\dn b) (H:kN F h eH v):kN dn ab eH v:=by obtain ⟨b,es,ag,av,aJ,bU,cX⟩:=H.ex;obtain ⟨de,kX⟩:=dE b cX av;exact ⟨b,es,ag,m.cJ av,by rw [m.get b av de];exact aJ,bU.mod m dE,kX⟩
theorem ahG {M xL:aU->Prop} {h g tH:ah} (a:Mod M h g) (b:Mod xL g tH) (w:∀p,Old h p->xL p->M p):Mod M h tH:=
 ⟨aol a.next b.next,fun p o n=>(b.get p (a.cJ o) fun z=>n (w p o z)).trans (a.get p o n)⟩
def dU (b:Nat) (q:aU):Prop:=cY q<b
structure fM (pre:List V) (b size:Nat) (h:ah) (aP:V) (n:Nat) (us:List V):Prop where
 g:h.get (aD b)=.a_ (pre++[aP]) 0 false
 o:cZ (b+1) h size aP n us
 lt:b<h.next
structure jR (pre:List V) (b size:Nat) (h:ah) (aP:V) (ab:ah) (di:V) (n:Nat) (us:List V):Prop where
 w:fM pre b size ab di n us
 m:Mod (fun q=>q=aD b\/aP.bh q) h ab
 f:∀q,di.bh q->aP.bh q\/h.next<=cY q
section
variable {pre:List V} {b size:Nat} {h ab lZ:ah} {aP di Sz:V} {n eN:Nat} {us xk:List V}
theorem fM.bh (W:fM pre b size h aP n us) {q:aU} (aq:aP.bh q):b<cY q:=W.o.base aq
theorem fM.lone (W:fM pre b size h aP n us):aP.one=true/\aP.cells=[aP]/\aP.fR=true:=W.o.v.one
theorem fM.ext (W:fM pre b size h aP n us) (e:Ext h ab):fM pre b size ab aP n us:=
 ⟨by rw [e.get _ (by unfold Old;rw [ee];exact W.lt)];exact W.g,W.o.ext e,ao3 W.lt e.next⟩
theorem fM.refl (W:fM pre b size h aP n us):jR pre b size h aP h aP n us:=⟨W,Mod.refl _ _,fun q z=>.inl z⟩
theorem jR.trans (A:jR pre b size h aP ab di n us) (B:jR pre b size ab di lZ Sz eN xk):jR pre b size h aP lZ Sz eN xk:=by
 refine ⟨B.w,ahG A.m B.m fun p o z=>?_,fun q z=>?_⟩
 . rcases z with z | z
   . exact .inl z
   . rcases A.f p z with y | y
     . exact .inr y
     . unfold Old at o;omega
 . rcases B.f q z with y | y
   . exact A.f q y
   . exact .inr (aol A.m.next y)
theorem jR.ext (A:jR pre b size h aP ab di n us) (e:Ext ab lZ):jR pre b size h aP lZ di n us:=
 ⟨A.w.ext e,A.m.trans (e.mod _),A.f⟩
theorem jR.b' {a6:ah} (e:Ext a6 h) (A:jR pre b size h aP ab di n us):jR pre b size a6 aP ab di n us:=
 ⟨A.w,(e.mod _).trans A.m,fun q z=>(A.f q z).imp id fun y=>aol e.next y⟩
theorem jR.gw (A:jR pre b size h aP ab di n us) (W:fM pre b size h aP eN xk):∀q,dU b q->Old h q->¬(q=aD b\/aP.bh q)/\dU b q:=fun q z o=>by
 refine ⟨fun y=>?_,z⟩;unfold dU at z;rcases y with rfl | y
 . rw [ee] at z;omega
 . have:=W.bh y;omega
theorem jR.cs (A:jR pre b size h aP ab di n us) (W:fM pre b size h aP eN xk) {ds:List D} {ai:List V} (H:cg (dU b) h ds ai):cg (dU b) ab ds ai:=H.mod A.m (A.gw W)
theorem jR.dZ (A:jR pre b size h aP ab di n us) (W:fM pre b size h aP eN xk) {k:Nat} {es:List (List D)} {v:V} (H:ch (dU b) h k es v):ch (dU b) ab k es v:=H.mod A.m (A.gw W)
theorem jR.get (A:jR pre b size h aP ab di n us) {q:aU} (o:Old h q) (J:q≠aD b) (ad:¬aP.bh q):ab.get q=h.get q:=A.m.get q o fun y=>y.elim J ad
theorem fM.put (W:fM pre b size h aP n us) {J:ah} {v:V} (S:cZ (b+1) J size v eN xk) (m:Mod aP.bh h J) (f:∀q,v.bh q->aP.bh q\/h.next<=cY q):
 J.get (aD b)=.a_ (pre++[aP]) 0 false/\jR pre b size h aP (J.set (aD b) (.a_ (pre++[v]) 0 false)) v eN xk:=by
 have aj:Old h (aD b):=by unfold Old;rw [ee];exact W.lt
 have an:J.get (aD b)=.a_ (pre++[aP]) 0 false:=by rw [m.get _ aj fun y=>by have:=W.bh y;rw [ee] at this;omega];exact W.g
 refine ⟨an,⟨by rw [fh,anL rfl],?_,by rw [o3];exact ao3 W.lt m.next⟩,?_,f⟩
 . refine S.mod ((Mod.refl (fun q=>q=aD b) J).set (fun _=>rfl) _) fun q z y=>?_;have:=S.base z;rw [y,ee] at this;omega
 . exact (m.mono (xL:=fun q=>q=aD b\/aP.bh q) fun q _ y=>Or.inr y).set (b:=aD b) (fun _=>.inl rfl) _
theorem fM.one (W:fM pre b size h aP n us) (cx:1<=size) {cs:List V} (hlen:(n+1) * size<=top) (hc:cs.length=size) (a1:fi cs=true):
 ∃v J,jz size aP (.slice (aD h.next) 0 1 1) (h.new (.a_ cs 0 false))=.val v J/\J.get (aD b)=.a_ (pre++[aP]) 0 false/\jR pre b size h aP (J.set (aD b) (.a_ (pre++[v]) 0 false)) v (n+1) (us++cs):=by
 obtain ⟨v,J,ag,av,aJ,bU,cX⟩:=xT cx W.o (Nat.succ_le_of_lt W.lt) hlen hc a1;obtain ⟨ct,cy⟩:=W.put av aJ fun q z=>(cX q z).imp id fun y=>Nat.le_of_lt y;exact ⟨v,J,ag,ct,cy⟩
end
def VD (P:Program) (f:FuncId) (args:List V) (u:Option V) (h:ah) (e1:Option V) (ab:ah):Prop:=
 (∃fn,P.funcs[f]? =some fn/\fn.body.isSome=true)/\∀(aB:Fr) E w xs m,bm E args xs->jS E u m->bd aB E h w->
  CallsDIn (cd none) 0 P f xs.toArray m w fun e dD w'=>∃ax x,e=.returned x/\E.le ax/\jS ax e1 (settle dD)/\bd aB ax ab w'
def u9 (P:Program) (f:FuncId) (args:List V) (u:Option V) (h:ah) (K:Option V->ah->Prop):Prop:=∃e1 ab,VD P f args u h e1 ab/\K e1 ab
def mY (P:Program):List V->Option V->ah->(Option V->ah->Prop)->Prop
 | [],u,h,K=>K u h
 | .func f args::ds,u,h,K=>u9 P f args u h fun e1 ab=>mY P ds e1 ab K
 | .ptr b _::ds,u,h,K=>(match h.get b with
   | .gp=>mY P ds u (h.set b .dead) K
   | _=>False)
 | _::_,_,_,_=>False
section
variable {P:Program} {az:Nat}
theorem Lt:∀{ai:List V} {u:Option V} {h:ah} {K:Option V->ah->Prop},mY P ai u h K->∃e1 ab,K e1 ab/\mY P ai u h fun a b=>a=e1/\b=ab
 | [],u,h,K,H=>⟨u,h,H,rfl,rfl⟩
 | v::ai,u,h,K,H=>by
   cases v<;>simp only [mY] at H<;>try (exact H.elim)
   . rename_i b o;cases an:h.get b<;>rw [an] at H<;>simp only at H<;>try (exact H.elim)
     obtain ⟨e1,ab,ag,av⟩:=Lt H;exact ⟨e1,ab,ag,by simp only [mY];rw [an];exact av⟩
   . obtain ⟨ko,J,TS,H⟩:=H;obtain ⟨e1,ab,ag,av⟩:=Lt H;exact ⟨e1,ab,ag,by simp only [mY];exact ⟨ko,J,TS,av⟩⟩
theorem Lu (aM:fa P) {aB:Fr} {fn:Func} {tmps:Array Value} {R:Ending->World->Prop} {e1:Option V} {ab:ah}:∀(ai:List V) (ds:List Deferred) (E:Env) (u:Option V) (h:ah) (w:World) (m:FrameMode),
 mY P ai u h (fun a b=>a=e1/\b=ab)->mw E ai ds->jS E u m->bd aB E h w->(∀ax dD w',E.le ax->jS ax e1 dD->bd aB ax ab w'->LeavesInM (cd none) 0 P fn tmps R [] dD w')->LeavesInM (cd none) 0 P fn tmps R ds m w
 | [],ds,E,u,h,w,m,he,aZ,hu,s,cV=>by obtain ⟨rfl,rfl⟩:=he;simp only [mw] at aZ;subst aZ;exact cV E m w (Env.le.refl E) hu s
 | v::ai,ds,E,u,h,w,m,he,aZ,hu,s,cV=>by
   obtain ⟨d,pg,rfl,vW,vX⟩:=aZ;cases v with
   | func f args=>
     simp only [mY] at he;obtain ⟨ko,J,⟨⟨P6,ig,aj⟩,db⟩,he⟩:=he;obtain ⟨aA,cap,aE,aw⟩:=vW;refine ⟨hu.run,.inr ⟨fun h=>by simp at h,_,cap,f,d.args++cap,aE,?_,fun _ _=>trivial,?_⟩⟩
     . rw [aE];simp only [invoke];exact s9 aM ig aj _ w
     . have e:d.args++cap=(d.args.toList++cap.toList).toArray:=by apply apg;simp
       rw [e];refine CallsDIn.mono (db aB E w _ m aw hu s) fun e m1 b4 aq=>?_;obtain ⟨aY,x,rfl,ag,av,aJ⟩:=aq;exact Lu aM ai pg aY ko J b4 (settle m1) he (vX.mono ag) av aJ fun aI m2 b1 ct cy fj=>cV aI m2 b1 (ag.trans ct) cy fj
   | ptr b off=>
     simp only [mY] at he;cases an:h.get b<;>rw [an] at he<;>simp only at he<;>try (exact he.elim)
     obtain ⟨p,ak,Iy⟩:=vW;have aj:=s.at ak;rw [an] at aj;obtain ⟨p',hQ,dz,bp⟩:=aj;rw [ak] at hQ;cases hQ;have l7:=(anx.1 bp).1
     let b4:World:={w with heap:=w.heap.setIfInBounds p.bh (.deferred none)}
     have rC:(Instr.takeDeferred p.bh).run P w=.ok [] b4:=by
      have fr:(getObj p.bh).run P w=.ok (.deferred (some [])) w:=by simp only [getObj,Sem.run,bp]
      have qA:(setObj p.bh (.deferred none)).run P w=.ok () b4:=by simp only [setObj,Sem.run,bp];rfl
      simp only [Instr.takeDeferred,Sem.run_bind,fr,Result.andThen_ok,qA,Sem.run_pure]
     have s1:bd aB E (h.set b .dead) b4:=s.gone (by rw [an];rfl) ak dz (by simp [b4]) (fun j bI=>by simp only [b4,anT];rw [anE (fun e=>bI e.symm)]) rfl rfl rfl;refine ⟨hu.run,.inl ⟨p.bh,b4,by rw [Iy],rC,?_⟩⟩;exact Lu aM ai pg E u _ b4 m he vX hu s1 cV
   | _=>simp [mY] at he
theorem PB {E:Env} {fn:Func} {args:List V} {xs:List Value} (ar:bm E args xs) (gF:fn.ntmps<=top) (kc:args.length<=fn.ntmps):
 j8 E fn.ntmps (bA.a_ args) {tmps:=xs.toArray++Array.replicate (fn.ntmps-xs.toArray.size) undef,defers:=[]}:=by
 have hlen:=ar.length;have cx:xs.toArray.size<=fn.ntmps:=by simp;omega
 have iB:(bA.a_ args) ej=.bad:=by rw [sY,an3 (by unfold ej;unfold top at gF;omega)];rfl
 refine ⟨by simp;omega,by rw [iB];simp [lP],fun t _=>?_⟩;rw [sY];cases an:args[t]? with
 | none=>simp [Rel]
 | some v=>
   obtain ⟨y,bc,aK⟩:=ar.get t v an;simp only [aoZ];have yR:t<xs.length:=(anU.1 bc).1;rw [anY,aoV (by simpa using yR)];simp only [List.getElem?_toArray,bc,aoZ];exact aK
theorem ZO (dE:P.follows .mixedOrders=true) (aM:fa P) {f:FuncId} {fn:Func} {c:Code} {args:List V} {h:ah} {K:V->ah->Prop} (aA:P.funcs[f]? =some fn) (aj:fn.body=some c)
 (gF:Nat.ble fn.ntmps top=true) (bc:Nat.beq f dy=false) (kc:Nat.ble args.length fn.ntmps=true) {rc:bD} {eJ:List p_} (wz:gJ P fn.ntmps c=rc) (sJ:nH P fn.ntmps fn.results.toList=eJ)
 (H:gO P rc (bA.a_ args) h fun e r ab=>e.ends/\mY P (r ej).list none ab fun u ad=>u=none/\∃ai,kt r ad eJ=some ai/\K (oneOf ai) ad):b8 P f args h K:=by
 subst wz sJ;rw [anS] at gF kc;have a1:Out fn.ntmps (bA.a_ args):=by intro t aE _;rw [sY,an3 (by omega)];rfl
 obtain ⟨e,bH,ab,⟨gE,aq⟩,ky,Bf⟩:=Ls gF dE aM c _ h _ a1 H;obtain ⟨hz,ad,⟨rfl,ai,BF,dW⟩,sC⟩:=Lt aq;have h0:f≠dy:=fun e=>by subst e;simp at bc
 refine ⟨oneOf ai,ad,⟨h0,.inl ⟨⟨fn,aA,by rw [aj];rfl⟩,fun aB E w xs ar s=>?_⟩⟩,dW⟩;refine sl.1 (callsIn_of_wp_marks (F:=cd none) (n:=0) aA aj trivial ?_);have k:=PB ar gF kc;have fin:∀ax bw w',E.le ax->j8 ax fn.ntmps bH bw->bd aB ax ab w'->LeavesInM (cd none) 0 P fn bw.tmps (fun e w'=>∃ax x,e=.returned x/\E.le ax/\Rel ax (oneOf ai) x/\bd aB ax ad w') bw.defers .returning w':=by intro ax bw w' ag av aJ;obtain ⟨c7,eu⟩:=x' ky.1;refine Lu aM _ bw.defers ax none ab w' .returning sC av.defers.list rfl aJ fun aI m2 b1 ct cy fj=>?_;simp only [jS] at cy;subst cy;have ay:RegRel0 aI fn.ntmps c7 bw:=⟨av.size,fun t aE=>by have:=congrFun eu t;simp only [eR] at this;rw [this];exact Rel.mono ct _ _ (av.af t (pK aE))⟩;obtain ⟨x,fc,fA⟩:=CH (P:=P) ay fj (x8 eu BF);exact ⟨x,fc,aI,x,rfl,ag.trans ct,fA,fj⟩
 refine (Bf none aB E _ w (.inl rfl) k s _ fun ax bw w' ag av aJ=>?_).wp;have:=fin ax bw w' ag av aJ;cases e with
 | normal=>exact this
 | ret=>exact this
 | exit i=>exact gE.elim
theorem ZU (dE:P.follows .mixedOrders=true) (aM:fa P) {f:FuncId} {fn:Func} {c:Code} {args:List V} {u:Option V} {h:ah} {K:Option V->ah->Prop} (aA:P.funcs[f]? =some fn) (aj:fn.body=some c)
 (gF:Nat.ble fn.ntmps top=true) (kc:Nat.ble args.length fn.ntmps=true) {rc:bD} {eJ:List p_} (wz:gJ P fn.ntmps c=rc) (sJ:nH P fn.ntmps fn.results.toList=eJ) (kA:rc.plain=true)
 (H:gO P rc (bA.a_ args) h fun e r ab=>e.ends/\∃ai,kt r ab eJ=some ai/\K u ab):u9 P f args u h K:=by
 subst wz sJ;rw [anS] at gF kc;have a1:Out fn.ntmps (bA.a_ args):=by intro t aE _;rw [sY,an3 (by omega)];rfl
 have iB:(bA.a_ args) ej=.bad:=by rw [sY,an3 (by unfold ej;unfold top at gF;omega)];rfl
 obtain ⟨e,bH,ab,⟨gE,ai,BF,dW⟩,ky,Bf⟩:=Ls gF dE aM c _ h _ a1 H;have wB:bH ej=.bad:=(ky.2 kA).trans iB;refine ⟨u,ab,⟨⟨fn,aA,by rw [aj];rfl⟩,fun aB E w xs m ar hu s=>?_⟩,dW⟩;have k:=PB ar gF kc;refine CallsDIn.mono (callsDIn_of_wp (R:=fun e w'=>∃ax x,e=.returned x/\E.le ax/\bd aB ax ab w') aA aj trivial ?_) fun dL dD w' aq=>?_
 . refine (Bf none aB E _ w (.inl rfl) k s _ fun ax bw w' ag av aJ=>?_).wp;obtain ⟨c7,eu⟩:=x' ky.1;have aZ:bw.defers=[]:=by have:=av.defers;rw [wB] at this;exact this
   have ay:RegRel0 ax fn.ntmps c7 bw:=⟨av.size,fun t aE=>by have:=congrFun eu t;simp only [eR] at this;rw [this];exact av.af t (pK aE)⟩;obtain ⟨x,ct,cy⟩:=CH (P:=P) ay aJ (x8 eu BF);cases e with
   | normal=>exact ⟨aZ,x,ct,ax,x,rfl,ag,aJ⟩
   | ret=>exact ⟨aZ,x,ct,ax,x,rfl,ag,aJ⟩
   | exit i=>exact gE.elim
 . obtain ⟨rfl,ax,x,rfl,ag,aJ⟩:=aq;exact ⟨ax,x,rfl,ag,by rw [hu.settle];exact hu.mono ag,aJ⟩
end
end
end Go.Proofs.YtefceblncmdkhaaGreatDoor.bb
