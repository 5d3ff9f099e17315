/- The abstract machine and its walks (a verified interpreter of the model's code: plain definitions and lemmas, no condition). Printed by a program from longer texts: names made short. -/
import Derived.Test.YtefceblncmdkhaaGreatDoorM4
import Derived.ChangeBears
import Derived.Carry
import Derived.OpenShut
import Derived.ChangeSame
import Derived.Test.YtefceblncmdkhaaGreatDoorM3
import Derived.Handed
import Derived.HandedShaped
set_option linter.unusedSectionVars false
set_option linter.unusedSimpArgs false
set_option linter.unusedVariables false
set_option maxHeartbeats 64000000
noncomputable section
namespace Go.Proofs.YtefceblncmdkhaaGreatDoor.bd
section
open Go Go.RowKit
variable [Lay]
section
variable (P:Program)
def zC:List Field->Nat->Option Nat
 | [],o=>some o
 | f::cl,o=>if f.offset=o then zC cl (o+P.cellsOf f.type) else none
def xg:Bool:=(List.range P.types.size).all fun t=>match P.underlying t with
 | some (.struct cl)=>decide (zC P cl.toList 0=some (P.cellsOf t))
 | _=>true
def fk (h:ah):Nat->Nat->TypeId->List V->Prop
 | 0,_,_,_=>False
 | n+1,m,t,ai=>match P.underlying t with
   | some .bool=>∃b,ai=[.bool b]
   | some (.int k)=>∃i,ai=[.int k i]/\(Lit.int k i).wf=true
   | some .string=>∃s:List UInt8,ai=[.str s]/\s.length+1<=m
   | some (.slice e)=>1<=m/\(ai=[.cc]\/(∃b i j k,ai=[.gQ b i j k])\/P.cellsOf e=0\/
      ∃b len cap,ai=[.slice b 0 len cap]/\0<len/\len<=cap/\Old h b/\∃us,nN h b us/\us.length=len * P.cellsOf e/\∃ms:List Nat,ms.length=len/\ms.sum+1<=m/\
       ∀(i k:Nat),ms[i]? =some k->1<=k/\fk h n k e ((us.drop (i * P.cellsOf e)).take (P.cellsOf e)))
   | some (.struct cl)=>ai.length=P.cellsOf t/\∃ms:List Nat,ms.length=cl.toList.length/\ms.sum+1<=m/\∀(i:Nat) (f:Field) (k:Nat),cl.toList[i]? =some f->ms[i]? =some k->1<=k/\fk h n k f.type ((ai.drop f.offset).take (P.cellsOf f.type))
   | some (.pointer e)=>1<=m/\(ai=[.ma]\/P.cellsOf e=0\/∃b,ai=[.ptr b 0]/\Old h b/\∃us,nN h b us/\us.length=P.cellsOf e/\∃k,k+1<=m/\fk h n k e us)
   | some (.map _ _)=>ai=[.lB]\/ai=[.bad]
   | some (.interface _)=>ai=[.nilIface]\/ai=[.bad]
   | _=>True
end
theorem fk.ext {P:Program} {h aa:ah} (e:Ext h aa):∀(n m:Nat) (t:TypeId) (ai:List V),fk P h n m t ai->fk P aa n m t ai
 | 0,_,_,_,H=>H
 | n+1,m,t,ai,H=>by
   unfold fk at H ⊢
   split at H<;>try exact H
   . refine ⟨H.1,?_⟩;rcases H.2 with H | H | H | ⟨b,len,cap,J,ad,aD,b0,us,bY,b_,ms,ej,e7,fI⟩
     . exact .inl H
     . exact .inr (.inl H)
     . exact .inr (.inr (.inl H))
     . exact .inr (.inr (.inr ⟨b,len,cap,J,ad,aD,e.cH b0,us,e.rd b0 bY,b_,ms,ej,e7,fun i k ay=>⟨(fI i k ay).1,fk.ext e n _ _ _ (fI i k ay).2⟩⟩))
   . obtain ⟨J,ms,ad,aD,bn⟩:=H;exact ⟨J,ms,ad,aD,fun i f k aA ay=>⟨(bn i f k aA ay).1,fk.ext e n _ _ _ (bn i f k aA ay).2⟩⟩
   . refine ⟨H.1,?_⟩;rcases H.2 with H | H | ⟨b,J,b0,us,bY,b_,k,ej,e7⟩
     . exact .inl H
     . exact .inr (.inl H)
     . exact .inr (.inr ⟨b,J,e.cH b0,us,e.rd b0 bY,b_,k,ej,fk.ext e n _ _ _ e7⟩)
mutual
def il {H:Type}:DataW H->Nat
 | .lit (.string bytes)=>bytes.length+1
 | .lit _=>1
 | .nil=>1
 | .ptr d=>il d+1
 | .slice elems spare=>pe elems+pe spare+1
 | .agg parts=>pe parts+1
 | .iface _ d=>il d+1
 | .map entries=>Mb entries+1
 | .held _=>1
def pe {H:Type}:List (DataW H)->Nat
 | []=>0
 | d::r=>il d+pe r
def Mb {H:Type}:List (Lit × DataW H)->Nat
 | []=>0
 | x::r=>WK x+Mb r
def WK {H:Type}:Lit × DataW H->Nat
 | (.string bytes,d)=>bytes.length+il d+1
 | (_,d)=>il d+1
end
theorem se {H:Type} (d:DataW H):1<=il d:=by
 cases d with
 | lit l=>cases l<;>simp [il]
 | _=>simp [il]
theorem Hc {H:Type}:∀l:List (DataW H),pe l=(l.map il).sum
 | []=>by simp [pe]
 | d::r=>by simp only [pe,anZ,List.sum_cons,Hc r]
theorem Du {w:World} {base:Nat} {a:Addr} {n:Nat} {l:List Value} (h:w.cells? base a n=some l):l.length=n/\∀i,i<n->w.cell? (a.add i)=l[i]? :=by
 unfold World.cells? at h
 split at h
 . exact ⟨by simpa using mapM_some_length h,fun i au=>mapM_some_get h i i (by simp [au])⟩
 . cases h
theorem TJ {E aw:Env} (he:E.le aw) {ai:List V} {l:List Value} (H:bm E ai l):bm aw ai l:=bm.mono he ai l H
section
variable {H:Type} {enc:TypeId × Value->H} {P:Program} {W:World} {base:Nat} {sp:Nat->Bool} {held:Bool}
def Lays (P:Program) (W:World) (n m:Nat) (t:TypeId) (cs:List Value):Prop:=
 ∀(E:Env) (h:ah),ba ⟨W,fun _=>none⟩ E h W->∃aw aa ai,E.le aw/\Ext h aa/\ba ⟨W,fun _=>none⟩ aw aa W/\bm aw ai cs/\ai.length=cs.length/\fk P aa n m t ai
theorem RN (n size:Nat) (e:TypeId):∀(pieces:List (List Value)) (ms:List Nat),ms.length=pieces.length->(∀(i:Nat) (l:List Value) (k:Nat),pieces[i]? =some l->ms[i]? =some k->l.length=size/\Lays P W n k e l)->
 ∀(E:Env) (h:ah),ba ⟨W,fun _=>none⟩ E h W->∃aw aa us,E.le aw/\Ext h aa/\ba ⟨W,fun _=>none⟩ aw aa W/\bm aw us pieces.flatten/\us.length=pieces.length * size/\
  ∀(i k:Nat),ms[i]? =some k->fk P aa n k e ((us.drop (i * size)).take size)
 | [],[],_,_,E,h,s=>⟨E,h,[],fun _ _ q=>q,Ext.refl h,s,rfl,by simp,fun i k au=>by simp at au⟩
 | [],_::_,ax,_,_,_,_=>by simp at ax
 | _::_,[],ax,_,_,_,_=>by simp at ax
 | l::ls,m::ms,mz,ak,E,h,s=>by
   obtain ⟨ax,H⟩:=ak 0 l m rfl rfl;obtain ⟨aY,J,ai,bR,a2,a3,a4,a5,mv⟩:=H E h s;obtain ⟨aH,ad,us,b8,cF,k6,nQ,nR,vo⟩:=RN n size e ls ms (by simpa using mz) (fun i l k ag av=>ak (i+1) l k (by simpa using ag) (by simpa using av)) aY J a3;refine ⟨aH,ad,ai++us,bR.trans b8,a2.trans cF,k6,?_,?_,?_⟩
   . rw [an_];exact bm.append (TJ b8 a4) nQ
   . rw [amZ,nR,a5,ax,am0,an0];omega
   . intro i k au;cases i with
     | zero=>
       rw [Nat.zero_mul,anN,aoW (by rw [a5,ax])];simp only [anj,amW] at au;subst au;exact fk.ext cF _ _ _ _ mv
     | succ i=>
       rw [an0,Nat.one_mul,ao3,<-List.drop_drop,List.drop_left' (by rw [a5,ax])];exact vo i k (by simpa using au)
theorem RM (n:Nat):∀(cl:List Field) (ms:List Nat) (o cn:Nat) (cs:List Value),zC P cl o=some cn->cs.length=cn->ms.length=cl.length->(∀(i:Nat) (f:Field) (k:Nat),cl[i]? =some f->ms[i]? =some k->Lays P W n k f.type ((cs.drop f.offset).take (P.cellsOf f.type)))->
 o<=cn/\∀(E:Env) (h:ah),ba ⟨W,fun _=>none⟩ E h W->∃aw aa ai,E.le aw/\Ext h aa/\ba ⟨W,fun _=>none⟩ aw aa W/\bm aw ai (cs.drop o)/\ai.length=cn-o/\
  ∀(i:Nat) (f:Field) (k:Nat),cl[i]? =some f->ms[i]? =some k->o<=f.offset/\fk P aa n k f.type ((ai.drop (f.offset-o)).take (P.cellsOf f.type))
 | [],_::_,_,_,_,_,_,mz,_=>by simp at mz
 | _::_,[],_,_,_,_,_,mz,_=>by simp at mz
 | [],[],o,cn,cs,aE,ax,_,_=>by simp only [zC,amW] at aE;subst aE;refine ⟨am6 _,fun E h s=>⟨E,h,[],fun _ _ q=>q,Ext.refl h,s,?_,by simp,fun i f k aA=>by simp at aA⟩⟩;rw [anD (by omega)];rfl
 | f::cl,m::ms,o,cn,cs,aE,ax,mz,ak=>by
   simp only [zC] at aE;by_cases aA:f.offset=o
   . rw [anb aA] at aE;obtain ⟨g1,g2⟩:=RM n cl ms (o+P.cellsOf f.type) cn cs aE ax (by simpa using mz) (fun i f k ag av=>ak (i+1) f k (by simpa using ag) (by simpa using av));refine ⟨by omega,fun E h s=>?_⟩;have wi:=ak 0 f m rfl rfl;obtain ⟨aY,J,ai,bR,a2,a3,a4,a5,mv⟩:=wi E h s;obtain ⟨aH,ad,us,b8,cF,k6,nQ,nR,vo⟩:=g2 aY J a3;have Jg:ai.length=P.cellsOf f.type:=by rw [a5,anH,anu,aA];omega
     refine ⟨aH,ad,ai++us,bR.trans b8,a2.trans cF,k6,?_,?_,?_⟩
     . have e:cs.drop o=(cs.drop f.offset).take (P.cellsOf f.type)++cs.drop (o+P.cellsOf f.type):=by
        rw [aA,<-List.drop_drop,aoB]
       rw [e];exact bm.append (TJ b8 a4) nQ
     . rw [amZ,Jg,nR];omega
     . intro i g k al ay;cases i with
       | zero=>
         simp only [anj,amW] at al ay;subst al ay;refine ⟨by omega,?_⟩;rw [aA,aoG,anN,aoW Jg];exact fk.ext cF _ _ _ _ mv
       | succ i=>
         obtain ⟨bW,cw⟩:=vo i g k (by simpa using al) (by simpa using ay);refine ⟨by omega,?_⟩;rw [show g.offset-o=P.cellsOf f.type + (g.offset - (o+P.cellsOf f.type)) from by omega,<-List.drop_drop,List.drop_left' Jg];exact cw
   . rw [am7 aA] at aE;cases aE
theorem Oq {w:World} {a:Addr} {y:Value} (h:w.cell? a=some y):a.spot=none/\∃c el b5,w.heap[a.block]? =some (.cells c el b5)/\c[a.off]? =some y:=by
 refine ⟨World.cell?_spot h,?_⟩;unfold World.cell? at h
 split at h
 . rename_i c el b5 bo
   split at h
   . cases h
   . exact ⟨c,el,b5,bo,h⟩
 . cases h
theorem VT (a:Addr) (n:Nat):(a.add n).block=a.block:=by unfold Addr.add;split<;>rfl
theorem VU (a:Addr) (n:Nat):(a.add n).off=a.off+n:=by unfold Addr.add;split<;>simp_all
theorem ajq {w:World} {a:Addr} {l:List Value} (a1:0<l.length) (h:∀i,i<l.length->w.cell? (a.add i)=l[i]?):
 a.spot=none/\∃c el b5,w.heap[a.block]? =some (.cells c el b5)/\a.off+l.length<=c.size/\∀i,i<l.length->c[a.off+i]? =l[i]? :=by
 have Eb:w.cell? (a.add 0)=some l[0]:=by rw [h 0 a1];exact amY a1
 obtain ⟨s1,c,el,b5,s2,Ct⟩:=Oq Eb;have dJ:a.add 0=a:=by unfold Addr.add;simp
 rw [dJ] at s1 s2 Ct;have key:∀i,i<l.length->c[a.off+i]? =l[i]? :=by intro i au;have q:=h i au;rw [amY au] at q ⊢;obtain ⟨_,hU,alH,alK,t2,t3⟩:=Oq q;rw [VT,s2] at t2;rw [VU] at t3;simp only [amW,Obj.cells.injEq] at t2;obtain ⟨rfl,_,_⟩:=t2;exact t3
 refine ⟨s1,c,el,b5,s2,?_,key⟩;have:=key (l.length-1) (by omega);rw [amY (by omega)] at this;have aL:=(am1.1 this).1;omega
theorem UN {E:Env} {h:ah} (s:ba ⟨W,fun _=>none⟩ E h W) {a:Addr} {cap:Nat} {l:List Value} (a1:0<l.length) (ao:∀i,i<l.length->W.cell? (a.add i)=l[i]?) {us:List V} (aJ:bm E us l):
 ∃aw aa b,E.le aw/\Ext h aa/\ba ⟨W,fun _=>none⟩ aw aa W/\Old aa b/\a.spot=none/\aw b=some ⟨a.block,a.off,cap⟩/\nN aa b us:=by
 obtain ⟨s1,c,el,b5,s2,Ct,zu⟩:=ajq a1 ao;have QY:us.length=l.length:=(bm.length aJ).symm;refine ⟨r1 E h ⟨a.block,a.off,cap⟩,h.new (.ro us),aC h.next,K3 s _,(Ext.refl h).new _,ajW s s2 (by omega) fun i v y bB bc=>?_,SO,s1,UM _ _ _,.inl (ju _)⟩;have au:i<l.length:=by have:=(anl.1 bB).1;omega
 rw [zu i au] at bc;obtain ⟨qR,an,aN⟩:=bm.get aJ i v bB;rw [bc] at an;simp only [amW] at an;rw [an];exact aN
theorem PE {α:Type} (size:Nat):∀(pieces:List (List α)) (i j:Nat),(∀l ∈ pieces,l.length=size)->i<pieces.length->j<size->pieces.flatten[i * size+j]? =(pieces[i]?).bind (·[j]?)
 | [],i,j,_,au,_=>by simp at au
 | l::ls,i,j,ak,au,bJ=>by
   have ax:l.length=size:=ak l (by simp);cases i with
   | zero=>
     rw [Nat.zero_mul,anB,an_,anp (by omega)];simp
   | succ i=>
     rw [an_,ano (by rw [ax,an0];omega)];rw [show (i+1) * size+j-l.length=i * size+j from by rw [ax,an0];omega];rw [PE size ls i j (fun l ax=>ak l (by simp [ax])) (by simpa using au) bJ];simp
theorem PG {α:Type} (size:Nat):∀(pieces:List (List α)),(∀l ∈ pieces,l.length=size)->pieces.flatten.length=pieces.length * size
 | [],_=>by simp
 | l::ls,ak=>by rw [an_,amZ,PG size ls (fun l ax=>ak l (by simp [ax])),ak l (by simp),am0,an0];omega
theorem S9 {α:Type} (R:Nat->α->Prop):∀(len:Nat),(∀i,i<len->∃l,R i l)->∃bD:List α,bD.length=len/\∀i l,bD[i]? =some l->R i l
 | 0,_=>⟨[],rfl,fun i l q=>by simp at q⟩
 | m+1,h=>by
   obtain ⟨bD,ag,av⟩:=S9 R m (fun i au=>h i (by omega));obtain ⟨l,J⟩:=h m (by omega);refine ⟨bD++[l],by simp [ag],fun i gd gm=>?_⟩;by_cases au:i<bD.length
   . rw [anp au] at gm;exact av i gd gm
   . rw [ano (by omega)] at gm;have dJ:i-bD.length=0:=by
      by_cases q:i-bD.length=0
      . exact q
      . rw [anv (by simp;omega)] at gm;cases gm
     rw [dJ] at gm;simp at gm;subst gm;obtain rfl:i=m:=by omega
     exact J
theorem EJ (eo:xg P=true) (cG:laidOutB P=true):∀(n:Nat) (t:TypeId) (cs:List Value) (x:DataW H × List MemPlace),t<P.types.size->DataW.trod enc P W base sp held n t cs=some x->Lays P W n (il x.1) t cs
 | 0,t,cs,x,_,h=>by simp [DataW.trod] at h
 | n+1,t,cs,x,aL,h=>by
   have Dl:∀(cs:List Value),(∀aa ai,ai.length=cs.length->fk P aa (n+1) (il x.1) t ai)->Lays P W (n+1) (il x.1) t cs:=by
    intro cs H E h s;refine ⟨E,h,cs.map fun _=>.bad,fun _ _ q=>q,Ext.refl h,s,?_,by simp,H _ _ (by simp)⟩;clear H
    induction cs with
    | nil=>rfl
    | cons c cs bA=>exact ⟨c,cs,rfl,by simp [Rel],bA⟩
   cases hu:P.underlying t with
   | none=>
     refine Dl cs fun aa ai _=>?_;simp only [fk,hu]
   | some u=>
     cases u with
     | bool=>
       obtain ⟨b,rfl,_⟩:=DataW.trod_bool hu h;intro E h s;exact ⟨E,h,[.bool b],fun _ _ q=>q,Ext.refl h,s,⟨_,_,rfl,rfl,rfl⟩,rfl,by simp only [fk,hu];exact ⟨b,rfl⟩⟩
     | int k=>
       obtain ⟨i,rfl,_,hw⟩:=DataW.trod_int hu h;intro E h s;exact ⟨E,h,[.int k i],fun _ _ q=>q,Ext.refl h,s,⟨_,_,rfl,rfl,rfl⟩,rfl,by simp only [fk,hu];exact ⟨i,rfl,hw⟩⟩
     | string=>
       obtain ⟨b,rfl,rfl,_⟩:=DataW.trod_string hu h;intro E h s;exact ⟨E,h,[.str b.data.toList],fun _ _ q=>q,Ext.refl h,s,⟨_,_,rfl,rfl,rfl⟩,rfl,by simp only [fk,hu,il];exact ⟨_,rfl,am6 _⟩⟩
     | struct cl=>
       obtain ⟨xs,hz,aX,rfl,ax,yM,aA⟩:=DataW.trod_struct hu h;obtain rfl:n=hz:=by omega
       have acU:zC P cl.toList 0=some (P.cellsOf t):=by unfold xg at eo;rw [anr] at eo;have:=eo t (aoy.2 aL);rw [hu] at this;exact of_decide_eq_true this
       have kR:∀(i:Nat) (f:Field) (k:Nat),cl.toList[i]? =some f->(xs.map fun x=>il x.1)[i]? =some k->Lays P W n k f.type ((cs.drop f.offset).take (P.cellsOf f.type)):=by
        intro i f k au ay;have pr:f ∈ cl.toList:=anE au;have j9:cl[i]? =some f:=by simpa using au
        have:=aA i f j9;have Qx:i<xs.length:=by rw [yM];exact (am1.1 j9).1
        rw [amY Qx] at this;rw [anQ,amY Qx,aot,amW] at ay;subst ay;exact EJ eo cG n _ _ _ ((kid_struct cG aL hu).1 f pr) this
       intro E h s;obtain ⟨_,g⟩:=RM n cl.toList (xs.map fun x=>il x.1) 0 _ cs acU ax (by simp [yM]) kR;obtain ⟨aw,aa,ai,bR,a2,a3,a4,a5,mv⟩:=g E h s;refine ⟨aw,aa,ai,bR,a2,a3,by simpa using a4,by rw [a5,ax];omega,?_⟩;simp only [fk,hu];refine ⟨by omega,xs.map fun x=>il x.1,by simp [yM],?_,fun i f k pr ay=>⟨?_,by simpa using (mv i f k pr ay).2⟩⟩
       . simp only [il,Hc,List.map_map];exact am6 _
       . rw [anQ,Option.map_eq_some_iff] at ay;obtain ⟨y,_,rfl⟩:=ay;exact se _
     | slice e=>
       rcases DataW.trod_slice hu h with ⟨rfl,rfl⟩ | ⟨a,len,cap,elems,rest,hz,aX,rfl,rfl,aj,sx,_,Qa,A6,_,_⟩
       . intro E h s;exact ⟨E,h,[.cc],fun _ _ q=>q,Ext.refl h,s,⟨_,_,rfl,rfl,rfl⟩,rfl,by simp only [fk,hu];exact ⟨se _,.inl trivial⟩⟩
       . obtain rfl:n=hz:=by omega
         by_cases aM:P.cellsOf e=0
         . refine Dl _ fun aa ai _=>?_;simp only [fk,hu];exact ⟨se _,.inr (.inr (.inl aM))⟩
         by_cases l0:len=0
         . subst l0;intro E h s;refine ⟨E,h,[.gQ .z 0 0 0],fun _ _ q=>q,Ext.refl h,s,⟨_,_,rfl,?_,rfl⟩,rfl,by simp only [fk,hu];exact ⟨se _,.inr (.inl ⟨_,_,_,_,rfl⟩)⟩⟩;simp only [Rel];exact ⟨_,_,rfl⟩
         . -- its elements
           have lp:∀i,i<len->∃l,W.cells? base (a.add (i * P.cellsOf e)) (P.cellsOf e)=some l/\∀k:Nat,(elems.map fun x=>il x.1)[i]? =some k->Lays P W n k e l:=by intro i au;have:=A6 i au;rw [amY (by omega)] at this;rw [Option.bind_eq_some_iff] at this;obtain ⟨l,J,ad⟩:=this;refine ⟨l,J,fun k ay=>?_⟩;rw [anQ,amY (by omega),aot,amW] at ay;subst ay;exact EJ eo cG n _ _ _ (kid_slice cG aL hu) ad
           obtain ⟨pieces,lo,iK⟩:∃pieces:List (List Value),pieces.length=len/\∀i (l:List Value),pieces[i]? =some l->W.cells? base (a.add (i * P.cellsOf e)) (P.cellsOf e)=some l/\∀k:Nat,(elems.map fun x=>il x.1)[i]? =some k->Lays P W n k e l:=by exact S9 (fun i l=>W.cells? base (a.add (i * P.cellsOf e)) (P.cellsOf e)=some l/\∀k:Nat,(elems.map fun x=>il x.1)[i]? =some k->Lays P W n k e l) len lp
           have kv:∀(i:Nat) (l:List Value) (k:Nat),pieces[i]? =some l->(elems.map fun x=>il x.1)[i]? =some k->l.length=P.cellsOf e/\Lays P W n k e l:=by intro i l k au ay;obtain ⟨ag,av⟩:=iK i l au;exact ⟨(Du ag).1,av k ay⟩
           have QI:∀l ∈ pieces,l.length=P.cellsOf e:=by intro l ax;obtain ⟨i,au⟩:=List.getElem?_of_mem ax;exact (Du (iK i l au).1).1
           intro E h s;obtain ⟨aY,J,us,bR,a2,a3,a4,a5,mv⟩:=RN n (P.cellsOf e) e pieces (elems.map fun x=>il x.1) (by simp [Qa,lo]) kv E h s;have kR:=PG (P.cellsOf e) pieces QI;have Bh:0<len * P.cellsOf e:=Nat.mul_pos (by omega) (by omega);have Il:∀i,i<pieces.flatten.length->W.cell? (a.add i)=pieces.flatten[i]? :=by
            intro q aq;rw [kR] at aq;have QB:q % P.cellsOf e<P.cellsOf e:=Nat.mod_lt _ (by omega);have hdiv:q / P.cellsOf e<pieces.length:=Nat.div_lt_of_lt_mul (by rw [Nat.mul_comm];exact aq);have wm:q / P.cellsOf e * P.cellsOf e+q % P.cellsOf e=q:=by rw [Nat.mul_comm];exact Nat.div_add_mod q _
            rw [<-wm,PE (P.cellsOf e) pieces _ _ QI hdiv QB,amY hdiv];obtain ⟨ag,_⟩:=iK _ _ (amY hdiv);have:=(Du ag).2 _ QB;rw [Option.bind_some,<-this];congr 1;unfold Addr.add;by_cases c9:q / P.cellsOf e * P.cellsOf e=0
            . rw [c9];simp
            . by_cases z2:q % P.cellsOf e=0
              . rw [z2];simp
              . have z3:¬(q / P.cellsOf e * P.cellsOf e+q % P.cellsOf e=0):=by omega
                rw [am7 c9,am7 z2,am7 z3];simp [aod]
           obtain ⟨aH,ad,b,b8,cF,k6,nQ,nR,vo,G9⟩:=UN a3 (cap:=cap) (by rw [kR,lo];exact Bh) Il a4;refine ⟨aH,ad,[.slice b 0 len cap],bR.trans b8,a2.trans cF,k6,⟨_,_,rfl,?_,rfl⟩,rfl,?_⟩
           . simp only [Rel];refine ⟨_,vo,sx,?_⟩;obtain ⟨pd,ahJ,st⟩:=a;simp only at nR;subst nR;rfl
           . simp only [fk,hu];refine ⟨se _,.inr (.inr (.inr ⟨b,len,cap,rfl,by omega,sx,nQ,us,G9,by rw [a5,lo],elems.map fun x=>il x.1,by simp [Qa],?_,fun i k ay=>⟨?_,fk.ext cF _ _ _ _ (mv i k ay)⟩⟩))⟩
             . simp only [il,Hc,List.map_map];exact Nat.add_le_add_right (Nat.le_add_right _ _) 1
             . rw [anQ,Option.map_eq_some_iff] at ay;obtain ⟨y,_,rfl⟩:=ay;exact se _
     | pointer e=>
       rcases DataW.trod_pointer hu h with ⟨rfl,rfl⟩ | ⟨a,p6,y,hz,aX,rfl,rfl,ao,bc⟩
       . intro E h s;exact ⟨E,h,[.ma],fun _ _ q=>q,Ext.refl h,s,⟨_,_,rfl,rfl,rfl⟩,rfl,by simp only [fk,hu];exact ⟨se _,.inl trivial⟩⟩
       . obtain rfl:n=hz:=by omega
         by_cases aM:P.cellsOf e=0
         . refine Dl _ fun aa ai _=>?_;simp only [fk,hu];exact ⟨se _,.inr (.inl aM)⟩
         . intro E h s;obtain ⟨ag,av⟩:=Du ao;obtain ⟨aY,J,us,bR,a2,a3,a4,a5,mv⟩:=EJ eo cG n _ _ _ (kid_pointer cG aL hu) bc E h s;obtain ⟨aH,ad,b,b8,cF,k6,nQ,nR,vo,G9⟩:=UN a3 (cap:=0) (by omega) (fun i au=>av i (by omega)) a4;refine ⟨aH,ad,[.ptr b 0],bR.trans b8,a2.trans cF,k6,⟨_,_,rfl,?_,rfl⟩,rfl,?_⟩
           . simp only [Rel];refine ⟨_,vo,?_⟩;obtain ⟨pd,ahJ,st⟩:=a;simp only at nR;subst nR;rfl
           . simp only [fk,hu];exact ⟨se _,.inr (.inr ⟨b,rfl,nQ,us,G9,by omega,_,am6 _,fk.ext cF _ _ _ _ mv⟩)⟩
     | map k e=>
       have gZ:cs.length=1:=by
        unfold DataW.trod at h;rw [hu] at h
        split at h<;>simp_all
       intro E h s;refine ⟨E,h,[.bad],fun _ _ q=>q,Ext.refl h,s,?_,by simp [gZ],by simp only [fk,hu];exact .inr trivial⟩
       match cs,gZ with
       | [c],_=>exact ⟨c,[],rfl,by simp [Rel],rfl⟩
     | interface ms=>
       have gZ:cs.length=1:=by
        unfold DataW.trod at h;rw [hu] at h
        split at h<;>simp_all
       intro E h s;refine ⟨E,h,[.bad],fun _ _ q=>q,Ext.refl h,s,?_,by simp [gZ],by simp only [fk,hu];exact .inr trivial⟩
       match cs,gZ with
       | [c],_=>exact ⟨c,[],rfl,by simp [Rel],rfl⟩
     | _=>
       refine Dl cs fun aa ai _=>?_;simp only [fk,hu]
def q2 (P:Program) (h:ah) (n m:Nat) (t:TypeId) (v:V):Prop:=
 match P.underlying t with
 | some (.struct _) | some (.array _ _)=>∃ai,v=.agg ai/\fk P h n m t ai
 | _=>fk P h n m t [v]
theorem q2.ext {h aa:ah} (e:Ext h aa) {n m:Nat} {t:TypeId} {v:V} (H:q2 P h n m t v):q2 P aa n m t v:=by
 unfold q2 at H ⊢
 split at H
 . obtain ⟨ai,ag,av⟩:=H;exact ⟨ai,ag,fk.ext e _ _ _ _ av⟩
 . obtain ⟨ai,ag,av⟩:=H;exact ⟨ai,ag,fk.ext e _ _ _ _ av⟩
 . exact fk.ext e _ _ _ _ H
theorem agn (eo:xg P=true) (cG:laidOutB P=true) {r:Reach} {nd:Nat} {t:TypeId} {v:Value} {d:DataW H} {p:List MemPlace} (aL:t<P.types.size) (bC:Value.okWide P W r nd t v) (aZ:DataW.Trod enc P W base sp held t v d p) {E:Env} {h:ah} (s:ba ⟨W,fun _=>none⟩ E h W):
 ∃n aw aa x,E.le aw/\Ext h aa/\ba ⟨W,fun _=>none⟩ aw aa W/\Rel aw x v/\q2 P aa n (il d) t x:=by
 obtain ⟨fuel,aA⟩:=aZ;obtain ⟨aw,aa,ai,bR,a2,a3,a4,a5,mv⟩:=EJ eo cG _ _ _ _ aL aA E h s;have agg:(∃cs,v=.agg cs)->∃x,Rel aw x v/\x=.agg ai:=by rintro ⟨cs,rfl⟩;exact ⟨.agg ai,by simp only [Rel];exact ⟨cs,rfl,a4⟩,rfl⟩
 have one:v.cells=#[v]->∃x,Rel aw x v/\ai=[x]:=by
  intro ao;rw [ao] at a4 a5
  match ai,a4,a5 with
  | [x],⟨y,cS,an,aN,cv⟩,_=>
    simp only [aoC] at an;exact ⟨x,an.1 ▸ aN,rfl⟩
 refine ⟨fuel,aw,aa,?_⟩;unfold Value.okWide at bC;cases hu:P.underlying t with
 | none=>
   rw [hu] at bC;simp only [Cell.okWide,Cell.ok,hu] at bC
 | some u=>
   rw [hu] at bC;unfold q2;rw [hu];cases u<;>simp only at bC ⊢<;>first
    | (obtain ⟨cs,bB,_⟩:=bC
       obtain ⟨x,ag,av⟩:=agg ⟨cs,bB⟩;exact ⟨x,bR,a2,a3,ag,ai,av,mv⟩)
    | (have ao:v.cells=#[v]:=by
        cases v<;>first
         | rfl
         | (simp only [Cell.okWide,Cell.ok,hu] at bC)
       obtain ⟨x,ag,av⟩:=one ao;exact ⟨x,bR,a2,a3,ag,av ▸ mv⟩)
def oJ (P:Program) (h:ah):Nat->List TypeId->List V->Prop
 | _,[],[]=>True
 | m,t::cZ,v::ai=>∃k bx,k+bx<=m/\(∃n,q2 P h n k t v)/\oJ P h bx cZ ai
 | _,_,_=>False
theorem oJ.mono {h:ah}:∀{m dA:Nat} {cZ:List TypeId} {ai:List V},m<=dA->oJ P h m cZ ai->oJ P h dA cZ ai
 | _,_,[],[],_,H=>by unfold oJ;trivial
 | _,_,[],_::_,_,H=>H.elim
 | _,_,_::_,[],_,H=>H.elim
 | _,_,_::_,_::_,hm,⟨k,bx,ay,H,k2⟩=>⟨k,bx,anM ay hm,H,k2⟩
theorem RL (eo:xg P=true) (cG:laidOutB P=true) {r:Reach} {nd:Nat}:∀{cZ:List TypeId} {ai:List Value} {ds:List (DataW H)} {p:List MemPlace},(∀t ∈ cZ,t<P.types.size)->(∀(j:Nat) t v,cZ[j]? =some t->ai[j]? =some v->Value.okWide P W r nd t v)->
 DataW.TrodAll enc P W base sp held cZ ai ds p->∀{E:Env} {h:ah},ba ⟨W,fun _=>none⟩ E h W->∃aw aa xs,E.le aw/\Ext h aa/\ba ⟨W,fun _=>none⟩ aw aa W/\bm aw xs ai/\oJ P aa (pe ds) cZ xs
 | [],[],ds,p,_,_,_,E,h,s=>⟨E,h,[],fun _ _ q=>q,Ext.refl h,s,rfl,by unfold oJ;trivial⟩
 | [],_::_,ds,p,_,_,aZ,E,h,s=>by cases ds<;>exact aZ.elim
 | _::_,[],ds,p,_,_,aZ,E,h,s=>by cases ds<;>exact aZ.elim
 | _::_,_::_,[],p,_,_,aZ,E,h,s=>aZ.elim
 | t::cZ,v::ai,d::ds,p,aE,bB,⟨cf,cd,J,ad,_⟩,E,h,s=>by obtain ⟨n,aY,g1,x,bR,a2,a3,a4,a5⟩:=agn eo cG (aE t (by simp)) (bB 0 t v rfl rfl) J s;obtain ⟨aH,g2,xs,b8,cF,k6,nQ,nR⟩:=RL eo cG (fun t q=>aE t (by simp [q])) (fun j t v ag av=>bB (j+1) t v (by simpa using ag) (by simpa using av)) ad a3;exact ⟨aH,g2,x::xs,bR.trans b8,a2.trans cF,k6,⟨_,_,rfl,Rel.mono b8 _ _ a4,nQ⟩,il d,pe ds,by simp only [pe];exact am6 _,⟨n,a5.ext cF⟩,nR⟩
theorem Ys (eo:xg P=true) (cG:laidOutB P=true) {r:Reach} {nd:Nat} {f:FuncId} {cZ:List TypeId} {ai:List Value} {ds:List (DataW H)} {p:List MemPlace} (fW:∀t ∈ cZ,t<P.types.size) (bB:∀(j:Nat) t v,cZ[j]? =some t->ai[j]? =some v->Value.okWide P W r nd t v)
 (aZ:DataW.TrodAll enc P W base sp held cZ ai ds p) (yg:Lay.ok W) (aK:e6 P) (aj:∃fn,P.funcs[f]? =some fn/\fn.body.isSome=true) (ao:∀(h:ah) (xs:List V),oJ P h (pe ds) cZ xs->b' P f xs h fun y _=>y=.bool true):
 Calls P f ai.toArray W fun e w'=>e=.returned (.bool true)/\Below W.heap.size W w':=by
 obtain ⟨E,h,xs,_,_,a3,a4,a5⟩:=RL eo cG fW bB aZ (FY W yg);obtain ⟨y,aa,jw,rfl⟩:=ao h xs a5;refine (jw.calls aK aj _ E W ai a4 a3).mono fun e w' q=>?_;obtain ⟨aw,x,rfl,_,av,aI⟩:=q;simp only [Rel] at av;subst av;exact ⟨rfl,aI.frame⟩
end
end
section
open Go Go.RowKit
variable [Lay]
section
variable {P:Program} {h:ah} {n m:Nat} {t:TypeId}
theorem fk.pos {ai:List V} (H:fk P h n m t ai):∃k,n=k+1:=by
 cases n with
 | zero=>exact H.elim
 | succ m=>exact ⟨m,rfl⟩
theorem fk.int {ai:List V} {k:IntKind} (H:fk P h n m t ai) (hu:P.underlying t=some (.int k)):∃i,ai=[.int k i]/\(Lit.int k i).wf=true:=by obtain ⟨m,rfl⟩:=H.pos;simpa only [fk,hu] using H
def zq (v:V):Prop:=∀b off l c,v=.slice b off l c->l<=c
end
end
section
open Go Go.RowKit Go.ChangeShapes Go.WideShapes
variable [Lay]
section
variable {H:Type} {enc:TypeId × Value->H} {P:Program}
theorem L7 (cG:laidOutB P=true) {W tu:World} (aj:Below W.heap.size W tu):∀{cZ:List TypeId} {ai:List Value} {ds:List (DataW H)} {bD:List MemPlace},(cZ.all fun t=>P.readableRec t&&decide (t<P.types.size))=true->
 DataW.TrodAll enc P W 0 (fun _=>true) true cZ ai ds bD->DataW.TrodAll enc P tu 0 (fun b=>decide (b<W.heap.size)) true cZ ai ds bD
 | [],[],[],_,_,h=>h
 | [],_::_,_,_,_,h=>by rename_i ds _;cases ds<;>exact h.elim
 | [],[],_::_,_,_,h=>h.elim
 | _::_,[],_,_,_,h=>by rename_i ds _;cases ds<;>exact h.elim
 | _::_,_::_,[],_,_,h=>h.elim
 | t::cZ,v::ai,d::ds,bD,aJ,h=>by have aL:=h.lt;obtain ⟨p,q,J,ad,rfl⟩:=h;simp only [anX,amX,ane] at aJ;exact ⟨p,q,Below.trod cG aJ.1.1 aJ.1.2 J aj (fun x ar=>aL x (by simp [ar])),L7 cG aj aJ.2 ad,rfl⟩
theorem Uw {W:World} {base:Nat} {sp:Nat->Bool} {held:Bool}:∀{cZ:List TypeId} {ai:List Value} {ds:List (DataW H)} {bD:List MemPlace},DataW.TrodAll enc P W base sp held cZ ai ds bD->ds.length=cZ.length
 | [],[],[],_,_=>rfl
 | [],_::_,ds,_,h=>by cases ds<;>exact h.elim
 | [],[],_::_,_,h=>h.elim
 | _::_,[],ds,_,h=>by cases ds<;>exact h.elim
 | _::_,_::_,[],_,h=>h.elim
 | t::cZ,v::ai,d::ds,bD,h=>by obtain ⟨p,q,J,ad,rfl⟩:=h;simp [Uw ad]
theorem af_ (eo:xg P=true) (cG:laidOutB P=true) {f:FuncId} {fn:Func} {s:ChangeSpec} {KW:TypeId} (fW:(fn.params.toList.all fun t=>P.readableRec t&&decide (t<P.types.size))=true) (QZ:s.vars=[]) (acL:fn.resultTypes=#[KW]) (acZ:P.underlying KW=some .bool)
 (Jb:∀ds:List (DataW H),ds.length=fn.params.size->s.fn H (ds++[])={results:=[.lit (.bool true)],args:=ds})
 {B:Nat} (ao:∀(h:ah) (xs:List V),oJ P h B fn.params.toList xs->b' P f xs h fun y _=>y=.bool true)
 {W:World} {base:Nat} {args:Array Value} {ds gs:List (DataW H)} {before:List MemPlace} (ay:pe (ds++gs)<=B) (l1:Lay.ok W) (aK:e6 P) (aj:∃fn,P.funcs[f]? =some fn/\fn.body.isSome=true)
 (Bp:∀(j:Nat) t v,fn.params[j]? =some t->args[j]? =some v->Value.okWide P W .any base t v) (yg:DataW.Whole enc P fn.params.toList s.vars false W args.toList ds gs before):
 Calls P f args W fun e tu=>∃v,e=.returned v/\s.post enc P fn false true false false W args v tu:=by
 have abm:=yg;obtain ⟨p,q,dK,P3,rfl,rj,ps⟩:=yg;rw [QZ] at P3;obtain ⟨rfl,rfl⟩:=trodVars_none P3;have hlen:ds.length=fn.params.size:=by rw [Uw dK];simp
 have hw:=Ys eo cG (nd:=base) (r:=.any) (fun t aE=>by
  have:=anr.1 fW t aE;simp only [amX,ane] at this
  exact this.2) (fun j t v J ad=>Bp j t v (by simpa using J) (by simpa using ad)) dK l1 aK aj (fun h xs q=>ao h xs (q.mono (by simpa using ay)))
 simp only [aoc] at hw;refine hw.mono fun e tu ⟨he,L6⟩=>?_;subst he;refine ⟨_,rfl,ds,[],p++[],[],p,[],abm,?_,?_,?_,L6.frame _,fun h=>by cases h⟩
 . rw [Jb ds hlen,acL];exact trodAll_mk1 (shut_bool acZ _)
 . rw [Jb ds hlen];exact L7 cG L6 fW dK
 . rw [Jb ds hlen,QZ];rfl
end
end
section
open Go Go.RowKit
variable [Lay]
theorem ajR {P:Program} {h:ah} {B:Nat} {xs:List V} (aM:oJ P h B [] xs):xs=[]:=by
 match xs,aM with
 | [],_=>rfl
theorem ajQ {P:Program} {h:ah} {B:Nat} {t:TypeId} {cZ:List TypeId} {xs:List V} (aM:oJ P h B (t::cZ) xs):∃a Dd k bx n,xs=a::Dd/\k+bx<=B/\q2 P h n k t a/\oJ P h bx cZ Dd:=by
 match xs,aM with
 | a::Dd,⟨k,bx,ay,⟨n,a1⟩,J⟩=>exact ⟨a,Dd,k,bx,n,rfl,ay,a1,J⟩
section
variable {P:Program} {h:ah} {n m:Nat} {t:TypeId} {v:V}
theorem ajS {k:IntKind} (aM:q2 P h n m t v) (hu:P.underlying t=some (.int k)):∃i,v=.int k i/\(Lit.int k i).wf=true:=by unfold q2 at aM;rw [hu] at aM;obtain ⟨s,e,q⟩:=fk.int aM hu;simp only [aoC,ao7] at e;exact ⟨s,e,q⟩
end
inductive D where
 | i (k:IntKind) (n:Int)
 | b (x:Bool)
 | s (x:List UInt8)
 | l (size:Nat) (es:List (List D))
inductive cj (F:aU->Prop) (h:ah):List D->List V->Prop
 | nil:cj F h [] []
 | i {k:IntKind} {n:Int} {ds:List D} {ai:List V} (t:cj F h ds ai):cj F h (.i k n::ds) (.int k n::ai)
 | b {x:Bool} {ds:List D} {ai:List V} (t:cj F h ds ai):cj F h (.b x::ds) (.bool x::ai)
 | s {x:List UInt8} {ds:List D} {ai:List V} (aj:x.length<=top) (t:cj F h ds ai):cj F h (.s x::ds) (.str x::ai)
 | l {size:Nat} {es:List (List D)} {v:V} {us:List (List V)} {ds:List D} {ai:List V} (aJ:zq v) (aj:es.length<=top) (aM:e9 h size v es.length us.flatten) (hu:us.length=es.length) (bG:∀u ∈ us,u.length=size)
    (kids:∀(i:Nat) (e:List D) (u:List V),es[i]? =some e->us[i]? =some u->cj F h e u) (aA:∀b,v.bj b->F b) (t:cj F h ds ai):cj F h (.l size es::ds) (v::ai)
structure cq (F:aU->Prop) (h:ah) (size:Nat) (es:List (List D)) (v:V):Prop where
 room:zq v
 le:es.length<=top
 ex:∃us:List (List V),e9 h size v es.length us.flatten/\us.length=es.length/\(∀u ∈ us,u.length=size)/\∀(i:Nat) (e:List D) (u:List V),es[i]? =some e->us[i]? =some u->cj F h e u
 x9:∀b,v.bj b->F b
section
variable {F:aU->Prop} {h aa:ah} {ds:List D} {ai:List V}
theorem cj.mod {dn M:aU->Prop} (m:Mod M h aa) (dE:∀b,F b->Old h b->¬M b/\dn b) (H:cj F h ds ai):cj dn aa ds ai:=by
 induction H with
 | nil=>exact .nil
 | i t bA=>exact .i bA
 | b t bA=>exact .b bA
 | s aj t bA=>exact .s aj bA
 | l aJ aj aM hu bG kids aA t t_ sM=>exact .l aJ aj (aM.mod m fun b q=>(dE b (aA b q) (aM.cH q)).1) hu bG t_ (fun b q=>(dE b (aA b q) (aM.cH q)).2) sM
theorem cj.ext (H:cj F h ds ai) (e:Ext h aa):cj F aa ds ai:=by
 induction H with
 | nil=>exact .nil
 | i t bA=>exact .i bA
 | b t bA=>exact .b bA
 | s aj t bA=>exact .s aj bA
 | l aJ aj aM hu bG kids aA t t_ sM=>exact .l aJ aj (aM.ext e) hu bG t_ aA sM
theorem cj.nH {dn:aU->Prop} (H:cj F h ds ai) (w:∀b,F b->dn b):cj dn h ds ai:=by
 induction H with
 | nil=>exact .nil
 | i t bA=>exact .i bA
 | b t bA=>exact .b bA
 | s aj t bA=>exact .s aj bA
 | l aJ aj aM hu bG kids aA t t_ sM=>exact .l aJ aj aM hu bG t_ (fun b q=>w b (aA b q)) sM
theorem cj.cH (H:cj F h ds ai):cj (fun b=>F b/\Old h b) h ds ai:=by
 induction H with
 | nil=>exact .nil
 | i t bA=>exact .i bA
 | b t bA=>exact .b bA
 | s aj t bA=>exact .s aj bA
 | l aJ aj aM hu bG kids aA t t_ sM=>exact .l aJ aj aM hu bG t_ (fun b q=>⟨aA b q,aM.cH q⟩) sM
theorem cj.fq (H:cj F h ds ai):fq ai=true:=by
 induction H with
 | nil=>rfl
 | i t bA=>simpa [Go.Proofs.YtefceblncmdkhaaGreatDoor.bd.fq,V.one] using bA
 | b t bA=>simpa [Go.Proofs.YtefceblncmdkhaaGreatDoor.bd.fq,V.one] using bA
 | s aj t bA=>simpa [Go.Proofs.YtefceblncmdkhaaGreatDoor.bd.fq,V.one] using bA
 | l aJ aj aM hu bG kids aA t t_ sM=>simp only [Go.Proofs.YtefceblncmdkhaaGreatDoor.bd.fq,aM.one.1,sM,Bool.and_self]
theorem cj.int {k:IntKind} {n:Int} (H:cj F h (.i k n::ds) ai):∃us,ai=.int k n::us/\cj F h ds us:=by
 cases H with
 | i t=>exact ⟨_,rfl,t⟩
theorem cj.str {x:List UInt8} (H:cj F h (.s x::ds) ai):∃us,ai=.str x::us/\x.length<=top/\cj F h ds us:=by
 cases H with
 | s aj t=>exact ⟨_,rfl,aj,t⟩
theorem cj.ek {size:Nat} {es:List (List D)} (H:cj F h (.l size es::ds) ai):∃v us,ai=v::us/\cq F h size es v/\cj F h ds us:=by
 cases H with
 | l aJ aj aM hu bG kids aA t=>exact ⟨_,_,rfl,⟨aJ,aj,⟨_,aM,hu,bG,kids⟩,aA⟩,t⟩
theorem cj.no (H:cj F h [] ai):ai=[]:=by cases H;rfl
end
theorem PB {size:Nat}:∀(us:List (List V)) (i:Nat) (u:List V),(∀u ∈ us,u.length=size)->us[i]? =some u->(us.flatten.drop (i * size)).take size=u
 | [],i,u,_,h=>by simp at h
 | w::us,0,u,ax,h=>by simp only [anj,amW] at h;subst h;rw [Nat.zero_mul,anN,an_,aoW (ax _ (by simp))]
 | w::us,i+1,u,ax,h=>by rw [show (i+1) * size=size+i * size from by rw [Nat.succ_mul,ao3],<-List.drop_drop,an_,List.drop_left' (ax _ (by simp))];exact PB us i u (fun u hu=>ax u (by simp [hu])) (by simpa using h)
theorem HM {size:Nat}:∀(us:List (List V)),(∀u ∈ us,u.length=size)->us.flatten.length=us.length * size
 | [],_=>by simp
 | w::us,ax=>by rw [an_,amZ,ax w (by simp),HM us (fun u hu=>ax u (by simp [hu])),am0,Nat.succ_mul,ao3]
section
variable {F:aU->Prop} {h aa:ah} {size:Nat} {es:List (List D)} {v:V}
theorem cq.cons {ds:List D} {ai:List V} (H:cq F h size es v) (t:cj F h ds ai):cj F h (.l size es::ds) (v::ai):=by obtain ⟨us,a,b,c,d⟩:=H.ex;exact .l H.room H.le a b c d H.x9 t
theorem cq.ext (H:cq F h size es v) (e:Ext h aa):cq F aa size es v:=by obtain ⟨us,a,b,c,d⟩:=H.ex;exact ⟨H.room,H.le,⟨us,a.ext e,b,c,fun i x u ag av=>(d i x u ag av).ext e⟩,H.x9⟩
theorem cq.mod {dn M:aU->Prop} (m:Mod M h aa) (dE:∀b,F b->Old h b->¬M b/\dn b) (H:cq F h size es v):cq dn aa size es v:=by obtain ⟨us,a,b,c,d⟩:=H.ex;exact ⟨H.room,H.le,⟨us,a.mod m fun x q=>(dE x (H.x9 x q) (a.cH q)).1,b,c,fun i x u ag av=>(d i x u ag av).mod m dE⟩,fun x q=>(dE x (H.x9 x q) (a.cH q)).2⟩
theorem cq.nH {dn:aU->Prop} (H:cq F h size es v) (w:∀b,F b->dn b):cq dn h size es v:=by obtain ⟨us,a,b,c,d⟩:=H.ex;exact ⟨H.room,H.le,⟨us,a,b,c,fun i x u ag av=>(d i x u ag av).nH w⟩,fun b q=>w b (H.x9 b q)⟩
theorem cq.len (H:cq F h size es v):mJ v=some (.int .i64 es.length):=by obtain ⟨us,a,_⟩:=H.ex;exact a.len
theorem cq.one (H:cq F h size es v):v.one=true/\v.cells=[v]/\v.fK=true:=by obtain ⟨us,a,_⟩:=H.ex;exact a.one
theorem cq.nil (F:aU->Prop) (h:ah) (size:Nat):cq F h size [] .cc:=⟨fun b o l c e=>(by cases e),aoL _,⟨[],⟨by simp,rfl⟩,rfl,fun u hu=>(by cases hu),fun i e u q=>(by simp at q)⟩,fun b q=>q.elim⟩
theorem cq.at (H:cq F h size es v) {k:IntKind} {i:Nat} (au:i<es.length):
 ∃b off u,iL size v (.int k i)=some (.ptr b (off+i * size))/\cj F h es[i] u/\u.length=size/\(∀aa,Ext h aa->o2 size (aa.get b) (off+i * size)=some (.agg u))/\∀aa,Ext h aa->∀j,j<size->jC (aa.get b) (off+i * size+j)=u[j]? :=by
 obtain ⟨us,J,ad,ax,aD⟩:=H.ex;have Qk:i<us.length:=by omega
 have hu:=amY Qk;obtain ⟨b,off,an,aN⟩:=J.dG (k:=k) au;have aA:=PB us i _ ax hu;have kR:=HM us ax;have hle:i * size+size<=us.length * size:=by have:=anO size (show i+1<=us.length by omega);rw [Nat.succ_mul] at this;exact this
 have QY:us[i].length=size:=ax _ (am3 Qk);refine ⟨b,off,us[i],an,aD i _ _ (amY au) hu,QY,fun aa e=>?_,fun aa e j bJ=>?_⟩
 . rw [(aN.ext e).ka (i:=i * size) (n:=size) (by omega),aA]
 . rw [aod,(aN.ext e).eA (i:=i * size+j) (by omega)];have:((us.flatten.drop (i * size)).take size)[j]? =us[i][j]? :=by rw [aA]
   rw [an8 bJ,aom] at this;rw [<-this,amY (by omega)]
end
def Any (_:aU):Prop:=True
structure Has (h:ah) (n:Nat) (l:List V):Prop where
 lt:n<h.next
 g:h.get (aC n)=.a_ l 0 false
theorem Has.ext {h aa:ah} {n:Nat} {l:List V} (B:Has h n l) (e:Ext h aa):Has aa n l:=⟨aou B.lt e.next,(e.get _ (hB B.lt)).trans B.g⟩
theorem gb (h:ah) (l:List V):∃H,h.new (.a_ l 0 false)=H/\Ext h H/\Has H h.next l:=⟨_,rfl,(Ext.refl h).new _,by rw [gD];omega,ju _⟩
theorem jq (h:ah) (z l:List V):∃H,(h.new (.a_ z 0 false)).set (aC h.next) (.a_ l 0 false)=H/\Ext h H/\Has H h.next l:=
 ⟨_,rfl,((Ext.refl h).new _).set (am6 _) _,by rw [pG,gD];omega,by rw [fm,anb rfl]⟩
theorem Has.put {h:ah} {n:Nat} {l:List V} (B:Has h n l) (gd:List V):Has (h.set (aC n) (.a_ gd 0 false)) n gd:=⟨by rw [pG];exact B.lt,by rw [fm,anb rfl]⟩
theorem cq.set {F:aU->Prop} {h:ah} {size:Nat} {es:List (List D)} {v:V} (H:cq F h size es v) {b:aU} (aj:¬F b) (k:cm):cq F (h.set b k) size es v:=
 H.mod ((Mod.refl (fun x=>x=b) h).set (fun _=>rfl) k) fun x q _=>⟨fun e=>aj (e ▸ q),q⟩
theorem cj.Fa {F:aU->Prop} {h:ah} {ds:List D} {ai:List V} (H:cj F h ds ai):cj (Old h) h ds ai:=H.cH.nH fun _ q=>q.2
theorem cq.Fa {F:aU->Prop} {h:ah} {size:Nat} {es:List (List D)} {v:V} (H:cq F h size es v):cq (Old h) h size es v:=by obtain ⟨us,a,b,c,d⟩:=H.ex;exact ⟨H.room,H.le,⟨us,a,b,c,fun i x u ag av=>(d i x u ag av).Fa⟩,fun b q=>a.cH q⟩
theorem jG {i n:Nat} (h:i<n) (aX:n<=4611686018427387904):IntKind.i64.wrap ((i:Int)+1)=((i+1:Nat):Int):=by rw [wrap_i64 (by omega) (by omega)];rfl
def nV (i:Int):List D:=[.i .i64 i]
theorem cq.Jq {F:aU->Prop} {h:ah} {l:List Int} {v:V} (H:cq F h 1 (l.map nV) v) {k:IntKind} {i:Nat} (au:i<l.length):
 ∃b off,iL 1 v (.int k i)=some (.ptr b (off+i * 1))/\∀aa,Ext h aa->jC (aa.get b) (off+i * 1)=some (.int .i64 l[i]):=by
 obtain ⟨b,off,u,an,aN,cv,_,hh⟩:=H.at (k:=k) (i:=i) (by rw [anc];exact au);rw [List.getElem_map,nV] at aN;obtain ⟨us,rfl,ko⟩:=cj.int aN;obtain rfl:=ko.no;exact ⟨b,off,an,fun aa e=>by simpa using hh aa e 0 (by omega)⟩
end
section
open Go Go.RowKit
variable [Lay]
def kX (n:Nat) (b:aU):aU:=aC (n+cR b)
mutual
def V.dd (n:Nat):V->V
 | .ptr b o=>.ptr (kX n b) o
 | .slice b o l c=>.slice (kX n b) o l c
 | .eu b o l c=>.eu (kX n b) o l c
 | .gQ b o l c=>.gQ (kX n b) o l c
 | .map b=>.map (kX n b)
 | .func f cs=>.func f (lL n cs)
 | .kT f cs=>.kT f (lL n cs)
 | .iface t v=>.iface t (v.dd n)
 | .agg cs=>.agg (lL n cs)
 | .tuple cs=>.tuple (lL n cs)
 | .bad=>.bad | .bool b=>.bool b | .int k i=>.int k i | .str s=>.str s | .ma=>.ma | .cc=>.cc | .lB=>.lB | .oq=>.oq | .nilIface=>.nilIface
def lL (n:Nat):List V->List V
 | []=>[]
 | v::ai=>v.dd n::lL n ai
end
theorem T' (n:Nat):∀l:List V,lL n l=l.map (V.dd n)
 | []=>by simp [lL]
 | v::l=>by rw [lL,T' n l,anZ]
def cK.dd (n:Nat) (m:cK):cK:=⟨m.k.dd n,m.v.dd n,m.born⟩
def cm.dd (n:Nat):cm->cm
 | .cells m cs cT st=>.a_ ((h' cs 0 m).map (V.dd n)) cT st
 | .iter s pos=>.iter s pos
 | .mp es clock=>.mp (es.map (cK.dd n)) clock
 | .iy es=>.iy (es.map (cK.dd n))
 | _=>.dead
def ah.q3 (h ao:ah):Nat->ah
 | 0=>h
 | k+1=>(h.q3 ao k).new ((ao.get (aC k)).dd h.next)
theorem xL (h ao:ah):∀k,(h.q3 ao k).next=h.next+k
 | 0=>rfl
 | k+1=>by rw [ah.q3,gD,xL h ao k];omega
theorem LM (h ao:ah):∀k,Ext h (h.q3 ao k)
 | 0=>Ext.refl h
 | k+1=>(LM h ao k).new _
theorem GV (h ao:ah):∀(k i:Nat),i<k->(h.q3 ao k).get (aC (h.next+i))=(ao.get (aC i)).dd h.next
 | 0,i,au=>absurd au (by omega)
 | k+1,i,au=>by
   rw [ah.q3,jt,xL];by_cases e:i=k
   . subst e;rw [anb rfl]
   . rw [am7 (fun q=>e (by have:=lF q;omega)),GV h ao k i (by omega)]
theorem LN (h ao:ah) (b:aU):∀(k:Nat),(cR b<h.next\/h.next+k<=cR b)->(h.q3 ao k).get b=h.get b
 | 0,_=>rfl
 | k+1,aj=>by rw [ah.q3,jt,xL,am7 (fun q=>by subst q;rw [dX] at aj;omega)];exact LN h ao b k (by omega)
def ah.app (h ao:ah):ah:=h.q3 ao ao.next
def pc (h ao:ah) (E aH:Env):Env:=fun b=>if h.next<=cR b/\cR b<h.next+ao.next then aH (aC (cR b-h.next)) else E b
section
variable {aB:Fr} {E aH:Env} {h ao:ah} {w b1:World}
theorem GU (s:ba aB E h w):E.le (pc h ao E aH):=fun b p q=>by
 unfold pc;rw [am7]
 . exact q
 . rintro ⟨J,_⟩;have:=s.fresh (cR b) J;rw [uH] at this;rw [this] at q;cases q
theorem r_ (s2:ba ⟨w,fun _=>none⟩ aH ao b1) {b:aU} {p:iW} (q:aH b=some p):pc h ao E aH (kX h.next b)=some p:=by
 unfold pc kX;have aL:cR b<ao.next:=by
  rcases an7 (cR b) ao.next with av | av
  . exact av
  . have:=s2.fresh _ av;rw [uH,q] at this;cases this
 rw [dX,anb ⟨by omega,by omega⟩,show h.next+cR b-h.next=cR b from by omega,uH];exact q
mutual
theorem s3 (s2:ba ⟨w,fun _=>none⟩ aH ao b1):∀(v:V) (x:Value),Rel aH v x->Rel (pc h ao E aH) (v.dd h.next) x
 | .bad,x,q=>by simp only [V.dd,Rel]
 | .bool _,x,q=>by simpa only [V.dd,Rel] using q
 | .int _ _,x,q=>by simpa only [V.dd,Rel] using q
 | .str _,x,q=>by simpa only [V.dd,Rel] using q
 | .ma,x,q=>by simpa only [V.dd,Rel] using q
 | .cc,x,q=>by simpa only [V.dd,Rel] using q
 | .lB,x,q=>by simpa only [V.dd,Rel] using q
 | .oq,x,q=>by simpa only [V.dd,Rel] using q
 | .nilIface,x,q=>by simpa only [V.dd,Rel] using q
 | .ptr b o,x,q=>by simp only [V.dd,Rel] at q ⊢;obtain ⟨p,ag,av⟩:=q;exact ⟨p,r_ s2 ag,av⟩
 | .slice b o l c,x,q=>by simp only [V.dd,Rel] at q ⊢;obtain ⟨p,ag,av⟩:=q;exact ⟨p,r_ s2 ag,av⟩
 | .eu b o l c,x,q=>by simp only [V.dd,Rel] at q ⊢;obtain ⟨p,ag,av⟩:=q;exact ⟨p,r_ s2 ag,av⟩
 | .gQ b o l c,x,q=>by simpa only [V.dd,Rel] using q
 | .map b,x,q=>by simp only [V.dd,Rel] at q ⊢;obtain ⟨p,ag,av⟩:=q;exact ⟨p,r_ s2 ag,av⟩
 | .func f cs,x,q=>by
   simp only [V.dd,Rel] at q ⊢;rcases q with ⟨ag,a,av,aI⟩ | ⟨ag,b,p,rfl,aI,bU⟩
   . exact .inl ⟨ag,a,av,Cp s2 cs _ aI⟩
   . exact .inr ⟨ag,kX h.next b,p,by simp only [lL,V.dd],r_ s2 aI,bU⟩
 | .kT f cs,x,q=>by simp only [V.dd,Rel] at q ⊢;obtain ⟨ag,a,av,aI⟩:=q;exact ⟨ag,a,av,Cp s2 cs _ aI⟩
 | .iface t v,x,q=>by simp only [V.dd,Rel] at q ⊢;obtain ⟨y,ag,av⟩:=q;exact ⟨y,ag,s3 s2 v y av⟩
 | .agg cs,x,q=>by simp only [V.dd,Rel] at q ⊢;obtain ⟨a,ag,av⟩:=q;exact ⟨a,ag,Cp s2 cs _ av⟩
 | .tuple cs,x,q=>by simp only [V.dd,Rel] at q ⊢;obtain ⟨a,ag,av⟩:=q;exact ⟨a,ag,Cp s2 cs _ av⟩
theorem Cp (s2:ba ⟨w,fun _=>none⟩ aH ao b1):∀(v:List V) (x:List Value),bm aH v x->bm (pc h ao E aH) (lL h.next v) x
 | [],x,q=>by simpa only [lL,bm] using q
 | v::ai,x,q=>by simp only [lL,bm] at q ⊢;obtain ⟨y,cS,ag,av,aI⟩:=q;exact ⟨y,cS,ag,s3 s2 v y av,Cp s2 ai cS aI⟩
end
theorem Ss (s2:ba ⟨w,fun _=>none⟩ aH ao b1):∀(v:List cK) (x:List MapEntry),e5 aH v x->e5 (pc h ao E aH) (v.map (cK.dd h.next)) x
 | [],x,q=>by simpa only [ao4,e5] using q
 | v::ai,x,q=>by simp only [anZ,e5,cK.dd] at q ⊢;obtain ⟨y,cS,ag,av,aI,bU,c8⟩:=q;exact ⟨y,cS,ag,s3 s2 _ _ av,s3 s2 _ _ aI,bU,Ss s2 ai cS c8⟩
theorem UK (s2:ba ⟨w,fun _=>none⟩ aH ao b1):∀(v:List cK) (x:List MapEntry),lR aH v x->lR (pc h ao E aH) (v.map (cK.dd h.next)) x
 | [],x,q=>by simpa only [ao4,lR] using q
 | v::ai,x,q=>by simp only [anZ,lR,cK.dd] at q ⊢;obtain ⟨y,cS,ag,av,aI,c8⟩:=q;exact ⟨y,cS,ag,s3 s2 _ _ av,s3 s2 _ _ aI,UK s2 ai cS c8⟩
theorem DY (cs:T V):∀(n off i:Nat),i<n->(h' cs off n)[i]? =some (T.get .bad (aC (off+i)) cs)
 | 0,_,i,au=>absurd au (by omega)
 | n+1,off,0,_=>by simp [h']
 | n+1,off,i+1,au=>by rw [h',anS,DY cs n (off+1) i (by omega)];congr 3;omega
theorem Wz (hw:aB.w.heap.size<=w.heap.size) (s2:ba ⟨w,fun _=>none⟩ aH ao b1) {b:aU} {k:cm} (H:hf w.heap.size aH b1 b k):hf aB.w.heap.size (pc h ao E aH) b1 (kX h.next b) (k.dd h.next):=by
 cases k with
 | cells n cs cT st=>
   obtain ⟨aX,p,c,el,b5,J,ad,aD,bn,b0,ep,fg⟩:=H;have ax:((h' cs 0 n).map (V.dd h.next)).length=n:=by rw [anc,vK]
   refine ⟨by rw [ax];exact aX,p,c,el,b5,r_ s2 J,anM hw ad,aD,bn,b0,ep,by rw [ax];exact fg.1,fun i y au bc=>?_⟩;rw [ax] at au;have:=AO ((h' cs 0 n).map (V.dd h.next)) 0 i .e;rw [anB,anb (by rw [ax];exact au),anQ,DY cs n 0 i au] at this;rw [this];simp only [aot,aop,anB];exact s3 s2 _ _ (fg.2 i y au bc)
 | iter st pos=>
   obtain ⟨p,J,ad,aD⟩:=H;exact ⟨p,r_ s2 J,anM hw ad,aD⟩
 | mp es clock=>
   obtain ⟨p,a,J,ad,aD,bn⟩:=H;exact ⟨p,a,r_ s2 J,anM hw ad,aD,Ss s2 _ _ bn⟩
 | iy es=>
   obtain ⟨p,a,c,l,J,ad,aD,bn,b0⟩:=H;exact ⟨p,a,c,l,r_ s2 J,anM hw ad,aD,UK s2 _ _ bn,b0⟩
 | _=>trivial
theorem Fi {k:cm} {n:Nat} (H:(k.dd n).own=true):k.own=true:=by cases k<;>simp_all [cm.dd,cm.own]
theorem S2 {B:Nat} {b:aU} {k:cm} {p:iW} (H:hf B E w b k) (a8:k.own=true) (q:E b=some p):B<=p.bj/\p.bj<w.heap.size:=by
 have lt:∀{o:Obj},w.heap[p.bj]? =some o->p.bj<w.heap.size:=fun {o} q=>by
  rcases an7 p.bj w.heap.size with av | av
  . exact av
  . rw [aoo av] at q;cases q
 cases k with
 | cells n cs cT st=>
   obtain ⟨_,p',c,el,b5,J,ad,aD,_⟩:=H;rw [q] at J;cases J;exact ⟨ad,lt aD⟩
 | iter st pos=>
   obtain ⟨p',J,ad,_,aD⟩:=H;rw [q] at J;cases J;exact ⟨ad,lt aD⟩
 | mp es clock=>
   obtain ⟨p',a,J,ad,aD,_⟩:=H;rw [q] at J;cases J;exact ⟨ad,lt aD⟩
 | iy es=>
   obtain ⟨p',a,c,l,J,ad,aD,_⟩:=H;rw [q] at J;cases J;exact ⟨ad,lt aD⟩
 | gq l=>
   obtain ⟨p',o,J,ad,aD,_⟩:=H;rw [q] at J;cases J;exact ⟨ad,lt aD⟩
 | gj=>
   obtain ⟨p',J,ad,aD⟩:=H;rw [q] at J;cases J;exact ⟨ad,lt aD⟩
 | kb src since seen last=>
   obtain ⟨p',m,a,J,ad,_,aD,_⟩:=H;rw [q] at J;cases J;exact ⟨ad,lt aD⟩
 | dead=>cases a8
 | view n cs=>cases a8
theorem Ua (s:ba aB E h w) (s2:ba ⟨w,fun _=>none⟩ aH ao b1):ba aB (pc h ao E aH) (h.app ao) b1:=by
 have T5:=s.below s2.frame;have hw:aB.w.heap.size<=w.heap.size:=s.frame.size;have cs:∀b,(h.next<=cR b/\cR b<h.next+ao.next/\∃i,i<ao.next/\b=kX h.next (aC i)/\(h.app ao).get b=(ao.get (aC i)).dd h.next/\pc h ao E aH b=aH (aC i))\/
  ((cR b<h.next\/h.next+ao.next<=cR b)/\(h.app ao).get b=h.get b/\pc h ao E aH b=E b):=fun b=>by
  by_cases q:h.next<=cR b/\cR b<h.next+ao.next
  . refine .inl ⟨q.1,q.2,cR b-h.next,by omega,?_,?_,anb q⟩
    . unfold kX;rw [dX,show h.next + (cR b-h.next)=cR b from by omega,uH]
    . have:=GV h ao ao.next (cR b-h.next) (by omega)
      rw [show h.next + (cR b-h.next)=cR b from by omega,uH] at this;exact this
  . exact .inr ⟨by omega,LN h ao b _ (by omega),am7 q⟩
 have SP:∀b p,(h.get b).own=true->E b=some p->p.bj<w.heap.size:=fun b p a8 q=>by have aj:hf aB.w.heap.size E w b (h.get b):=s.at q;exact (S2 aj a8 q).2
 have Sw:∀i p,(ao.get (aC i)).own=true->aH (aC i)=some p->w.heap.size<=p.bj:=fun i p a8 q=>(S2 (s2.bj _ rfl) a8 q).1;refine ⟨fun b aj=>?_,fun b k ay=>?_,fun b bV p p' dc c4 an aN ak=>?_,fun i au=>?_,T5.frame,s.laid,fun b p n c st al he=>?_⟩
 . rcases cs b with ⟨_,_,i,au,rfl,an,aN⟩ | ⟨_,an,aN⟩
   . rw [an];exact Wz hw s2 (s2.bj _ rfl)
   . rw [an];exact (T5.bj b aj).mono (GU s)
 . obtain ⟨ag,av,i,au,rfl⟩:=s.pJ b k ay;rcases cs (aC i) with ⟨bW,_⟩ | ⟨_,an,aN⟩
   . rw [dX] at bW;omega
   . refine ⟨an.trans ag,aN.trans av,i,?_,rfl⟩;show i < (h.q3 ao ao.next).next
     rw [xL];omega
 . rcases cs b with ⟨_,_,i,au,rfl,g1,g2⟩ | ⟨_,g1,g2⟩<;>rcases cs bV with ⟨_,_,j,bJ,rfl,g3,g4⟩ | ⟨_,g3,g4⟩
   . rw [g1] at dc;rw [g3] at c4;rw [g2] at an;rw [g4] at aN;rw [s2.inj _ _ _ _ (Fi dc) (Fi c4) an aN ak]
   . rw [g1] at dc;rw [g3] at c4;rw [g2] at an;rw [g4] at aN;have a:=Sw _ _ (Fi dc) an;have b:=SP _ _ c4 aN;omega
   . rw [g1] at dc;rw [g3] at c4;rw [g2] at an;rw [g4] at aN;have a:=Sw _ _ (Fi c4) aN;have b:=SP _ _ dc an;omega
   . rw [g1] at dc;rw [g3] at c4;rw [g2] at an;rw [g4] at aN;exact s.inj _ _ _ _ dc c4 an aN ak
 . have aX:(h.app ao).next=h.next+ao.next:=xL h ao ao.next
   rw [aX] at au;rcases cs (aC i) with ⟨bW,cw,_⟩ | ⟨_,an,aN⟩
   . rw [dX] at cw;omega
   . rw [aN];exact s.fresh i (by omega)
 . rcases cs b with ⟨_,_,i,au,rfl,g1,g2⟩ | ⟨_,g1,g2⟩
   . rw [g2] at he;cases ay:ao.get (aC i) with
     | cells hz hU alJ amC=>
       rw [g1,ay] at al;simp only [cm.dd,cm.a_,cm.cells.injEq] at al;obtain ⟨_,_,q,_⟩:=al;subst q;exact s2.base _ _ _ _ _ ay he
     | _=>rw [g1,ay] at al;simp [cm.dd] at al
   . rw [g1] at al;rw [g2] at he;exact s.base _ _ _ _ _ al he
end
theorem YS {C:Ctx} (dE:C.P.follows .mixedOrders=true) (aK:e6 C.P) (hy:p0 C) {n:Nat} {f:FuncId} {ao:ah} {v:V} (aA:Nat.beq f dv=false) (ar:C.ext f=none) (hM:∃fn,C.P.funcs[f]? =some fn/\fn.body.isSome=true)
 (he:sg C n f [] ah.empty=.val v ao) (h:ah):ff C.P f [] h (v.dd h.next) (h.app ao):=by
 refine ⟨fun e=>by subst e;simp at aA,.inl ⟨hM,fun aB E w xs ax s=>?_⟩⟩;simp only [bm] at ax;subst ax;obtain ⟨_,kr⟩:=Hk dE aK hy aA ar he (aB:=⟨w,fun _=>none⟩) (E:=fun _=>none) (w:=w) (xs:=[]) rfl (FY w (Lay.gp s.laid s.frame));refine kr.mono fun e w' aq=>?_;obtain ⟨aw,x,rfl,_,av,aI⟩:=aq;exact ⟨_,x,rfl,GU s,s3 aI _ _ av,Ua s aI⟩
theorem LO (h ao:ah):Ext h (h.app ao):=LM h ao _
theorem GZ (h ao:ah) {i:Nat} (au:i<ao.next):(h.app ao).get (aC (h.next+i))=(ao.get (aC i)).dd h.next:=GV h ao _ i au
theorem LP (h ao:ah):(h.app ao).next=h.next+ao.next:=xL h ao _
end
section
open Go Go.RowKit
variable [Lay]
def Jz:IntKind->IntKind->Bool
 | .i8,.i8 | .i16,.i16 | .i32,.i32 | .i64,.i64 | .u8,.u8 | .u16,.u16 | .u32,.u32 | .u64,.u64=>true
 | _,_=>false
theorem Rt {a b:IntKind} (h:Jz a b=true):a=b:=by cases a<;>cases b<;>first | rfl | cases h
def tZ:Int->Int->Bool
 | .ofNat a,.ofNat b=>Nat.beq a b
 | .negSucc a,.negSucc b=>Nat.beq a b
 | _,_=>false
theorem Eu {a b:Int} (h:tZ a b=true):a=b:=by cases a<;>cases b<;>simp only [tZ] at h<;>first | (rw [anP h]) | (cases h)
def L5:Bool->Bool->Bool
 | true,true | false,false=>true
 | _,_=>false
theorem Wo {a b:Bool} (h:L5 a b=true):a=b:=by cases a<;>cases b<;>first | rfl | cases h
def FW:List UInt8->List UInt8->Bool
 | [],[]=>true
 | a::L3,b::fF=>Nat.beq a.toNat b.toNat&&FW L3 fF
 | _,_=>false
theorem T4:∀{a b:List UInt8},FW a b=true->a=b
 | [],[],_=>rfl
 | [],_::_,h=>by cases h
 | _::_,[],h=>by cases h
 | a::L3,b::fF,h=>by simp only [FW,amX] at h;rw [T4 h.2,UInt8.toNat_inj.1 (anP h.1)]
def E_ (nf:List D->List V->Bool) (size:Nat):List (List D)->List V->Bool
 | [],pn=>(match pn with | []=>true | _=>false)
 | e::es,pn=>Nat.beq (pn.take size).length size&&nf e (pn.take size)&&E_ nf size es (pn.drop size)
def J_ (ao:ah) (nf:List D->List V->Bool) (size:Nat) (es:List (List D)):V->Bool
 | .cc=>(match es with | []=>true | _=>false)
 | .slice b off len cap=>Nat.beq len es.length&&Nat.ble len cap&&Nat.ble len top&&Nat.blt (cR b) ao.next&&(match ao.get b with
   | .cells n cs _ _=>Nat.ble (off+len * size) n&&E_ nf size es (h' cs off (len * size))
   | _=>false)
 | _=>false
def B8 (ao:ah):Nat->List D->List V->Bool
 | 0,_,_=>false
 | f+1,ds,ai=>match ds with
   | []=>(match ai with | []=>true | _=>false)
   | d::ds=>match ai with
     | []=>false
     | v::ai=>(match d with
       | .i k n=>(match v with | .int bx hz=>Jz k bx&&tZ n hz | _=>false)
       | .b x=>(match v with | .bool y=>L5 x y | _=>false)
       | .s x=>(match v with | .str y=>FW x y&&Nat.ble x.length top | _=>false)
       | .l size es=>J_ ao (B8 ao f) size es v)&&B8 ao f ds ai
section
variable {h ao:ah}
def uB (h ao:ah) (b:aU):Prop:=h.next<=cR b/\cR b<h.next+ao.next
theorem SK {nf:List D->List V->Bool} {size:Nat}:∀{es:List (List D)} {pn:List V},E_ nf size es pn=true->
 ∃us:List (List V),pn=us.flatten/\us.length=es.length/\(∀u ∈ us,u.length=size)/\∀(i:Nat) (e:List D) (u:List V),es[i]? =some e->us[i]? =some u->nf e u=true
 | [],pn,H=>by
   cases pn with
   | nil=>exact ⟨[],rfl,rfl,fun u q=>(by cases q),fun i e u q=>(by simp at q)⟩
   | cons _ _=>cases H
 | e::es,pn,H=>by
   simp only [E_,amX] at H;obtain ⟨us,ag,av,aI,bU⟩:=SK H.2;refine ⟨pn.take size::us,by rw [an_,<-ag,aoB],by simp [av],fun u hu=>?_,fun i x u an aN=>?_⟩
   . rcases ans.1 hu with rfl | hu
     . exact anP H.1.1
     . exact aI u hu
   . cases i with
     | zero=>
       simp only [anj,amW] at an aN;subst an aN;exact H.1.2
     | succ i=>exact bU i x u (by simpa using an) (by simpa using aN)
theorem aaH (cs:T V) (n off m:Nat) (hm:off+m<=n):((h' cs 0 n).drop off).take m=h' cs off m:=by
 apply List.ext_getElem?;intro i;by_cases au:i<m
 . rw [an8 au,aom,DY cs n 0 _ (by omega),DY cs m off i au,anB]
 . rw [anv (by rw [anH,anu,vK];omega),anv (by rw [vK];omega)]
theorem ahP {nf:List D->List V->Bool} (ay:∀ds ai,nf ds ai=true->cj (uB h ao) (h.app ao) ds (lL h.next ai)) {size:Nat} {es:List (List D)} {v:V} (H:J_ ao nf size es v=true):
 cq (uB h ao) (h.app ao) size es (v.dd h.next):=by
 cases v<;>simp only [J_] at H<;>try (cases H;done)
 case cc=>
  cases es with
  | nil=>exact cq.nil _ _ _
  | cons _ _=>cases H
 case slice b off len cap=>
  simp only [amX] at H;obtain ⟨⟨⟨⟨J,ad⟩,aD⟩,bn⟩,b0⟩:=H;have J:=anP J;have ad:=anx ad;have aD:=anx aD;have bn:cR b<ao.next:=anx bn
  cases al:ao.get b<;>rw [al] at b0<;>simp only at b0<;>try (cases b0;done)
  rename_i n cs cT st;simp only [amX] at b0;have ep:=anx b0.1;obtain ⟨us,ag,av,aI,bU⟩:=SK b0.2;subst J;have ss:(h.app ao).get (kX h.next b)=.a_ ((h' cs 0 n).map (V.dd h.next)) cT st:=by have:=GZ h ao bn;rw [uH,al] at this;exact this
  have kR:(us.map (List.map (V.dd h.next))).flatten=us.flatten.map (V.dd h.next):=by rw [List.map_flatten]
  have hlen:us.flatten.length=es.length * size:=by rw [<-ag,vK]
  refine ⟨fun bV o l c e=>(by cases e;exact ad),aD,⟨us.map (List.map (V.dd h.next)),⟨by rw [kR,anc,hlen],rfl,?_,_,.inr ⟨cT,st,ss⟩,?_,?_⟩,by rw [anc,av],fun u hu=>?_,fun i e u an aN=>?_⟩,fun bV q=>?_⟩
  . unfold Old kX;rw [dX,LP];omega
  . rw [kR,anc,anc,vK,hlen];exact ep
  . rw [kR,anc,hlen,<-List.map_drop,<-List.map_take,aaH cs n off _ ep,ag]
  . obtain ⟨eV,hO,rfl⟩:=List.mem_map.1 hu;rw [anc];exact aI eV hO
  . rw [anQ] at aN;cases aq:us[i]? with
    | none=>rw [aq] at aN;cases aN
    | some eV=>
      rw [aq] at aN;simp only [aot,amW] at aN;subst aN;rw [<-T'];exact ay _ _ (bU i e eV an aq)
  . simp only [V.dd,V.bj] at q;subst q;unfold uB kX;rw [dX];exact ⟨by omega,by omega⟩
theorem J9:∀{f:Nat} {ds:List D} {ai:List V},B8 ao f ds ai=true->cj (uB h ao) (h.app ao) ds (lL h.next ai)
 | 0,_,_,H=>by cases H
 | f+1,ds,ai,H=>by
   cases ds with
   | nil=>
     cases ai with
     | nil=>exact .nil
     | cons _ _=>cases H
   | cons d ds=>
     cases ai with
     | nil=>cases H
     | cons v ai=>
       simp only [B8,amX] at H;have t:=J9 (f:=f) H.2;have H1:=H.1;rw [lL];cases d with
       | i k n=>
         cases v<;>simp only at H1<;>try (cases H1;done)
         simp only [amX] at H1;rw [Rt H1.1,Eu H1.2];simp only [V.dd];exact .i t
       | b x=>
         cases v<;>simp only at H1<;>try (cases H1;done)
         rw [Wo H1];simp only [V.dd];exact .b t
       | s x=>
         cases v<;>simp only at H1<;>try (cases H1;done)
         simp only [amX] at H1;rw [<-T4 H1.1];simp only [V.dd];exact .s (anx H1.2) t
       | l size es=>exact (ahP (fun ds ai q=>J9 (f:=f) q) H1).cons t
end
def mK (k:Int):List (Int × List D)->Option (List D)
 | []=>none
 | (n,d)::l=>if k=n then some d else mK k l
inductive k1 (F:aU->Prop) (h:ah):List (Int × List D)->List cK->Prop
 | nil:k1 F h [] []
 | cons {n:Int} {ds:List D} {y:V} {born:Nat} {eF:List (Int × List D)} {es:List cK} (aZ:cj F h ds y.cells) (t:k1 F h eF es):k1 F h ((n,ds)::eF) (⟨.int .i64 n,y,born⟩::es)
structure kL (F:aU->Prop) (h:ah) (eF:List (Int × List D)) (v:V):Prop where
 ex:∃b es,v=.map b/\Old h b/\((∃clock,h.get b=.mp es clock)\/h.get b=.iy es/\(eF.map Prod.fst).Nodup)/\k1 F h eF es/\F b
section
variable {F:aU->Prop} {h aa:ah} {eF:List (Int × List D)} {es:List cK} {v:V}
theorem k1.ext (H:k1 F h eF es) (e:Ext h aa):k1 F aa eF es:=by
 induction H with
 | nil=>exact .nil
 | cons aZ t bA=>exact .cons (aZ.ext e) bA
theorem kL.ext (H:kL F h eF v) (e:Ext h aa):kL F aa eF v:=by obtain ⟨b,es,ag,av,aI,bU,c8⟩:=H.ex;exact ⟨b,es,ag,e.cH av,by rw [e.get b av];exact aI,bU.ext e,c8⟩
theorem T0 (k n:Int):nj.run (.int .i64 k) (.int .i64 n)=some (decide (k=n)):=by simp only [nj,V.e1,ph,am4,AI]
theorem k1.kO (H:k1 F h eF es) (k:Int):(mK k eF=none/\kO nj (.int .i64 k) es=some none)\/∃ds y,mK k eF=some ds/\cj F h ds y.cells/\Go.Proofs.YtefceblncmdkhaaGreatDoor.bd.kO nj (.int .i64 k) es=some (some y):=by
 induction H with
 | nil=>exact .inl ⟨rfl,rfl⟩
 | @cons n ds y born eF es aZ t bA=>
   simp only [mK,Go.Proofs.YtefceblncmdkhaaGreatDoor.bd.kO,T0];by_cases q:k=n
   . subst q;simp only [anz,aoQ,am4];exact .inr ⟨ds,y,rfl,aZ,rfl⟩
   . simp only [q,anw,aoK,anf];exact bA
theorem Sg {k:Int} {ds:List D}:∀{eF:List (Int × List D)},mK k eF=some ds->k ∈ eF.map Prod.fst
 | [],h=>by cases h
 | (n,d)::l,h=>by
   simp only [mK] at h;by_cases q:k=n
   . subst q;simp
   . rw [am7 q] at h;simp only [anZ,ans];exact .inr (Sg h)
theorem k1.kN (H:k1 F h eF es) (aX:(eF.map Prod.fst).Nodup) (k:Int):(mK k eF=none/\kN nj (.int .i64 k) es=some none)\/∃ds y,mK k eF=some ds/\cj F h ds y.cells/\Go.Proofs.YtefceblncmdkhaaGreatDoor.bd.kN nj (.int .i64 k) es=some (some y):=by
 induction H with
 | nil=>exact .inl ⟨rfl,rfl⟩
 | @cons n ds y born eF es aZ t bA=>
   simp only [anZ,ao5] at aX;have bA:=bA aX.2;simp only [mK,Go.Proofs.YtefceblncmdkhaaGreatDoor.bd.kN,T0];by_cases q:k=n
   . subst q;rcases bA with ⟨_,e⟩ | ⟨_,_,e,_⟩
     . simp only [e,anz,aoQ,am4];exact .inr ⟨ds,y,rfl,aZ,rfl⟩
     . exact absurd (Sg e) aX.1
   . rcases bA with ⟨an,e⟩ | ⟨lT,qR,an,aN,e⟩
     . simp only [e,q,anw,aoK,anf];exact .inl ⟨an,trivial⟩
     . simp only [e,q,anw,aoK,anf];exact .inr ⟨lT,qR,an,aN,rfl⟩
theorem kL.look (H:kL F h eF v) (k:Int) (z:V) (ok:Bool):(mK k eF=none/\kA nj z ok h v (.int .i64 k)=some (bif ok then .tuple [z,.bool false] else z))\/
 ∃ds y,mK k eF=some ds/\cj F h ds y.cells/\kA nj z ok h v (.int .i64 k)=some (bif ok then .tuple [y,.bool true] else y):=by
 obtain ⟨b,es,rfl,_,aI,bU,_⟩:=H.ex;rcases aI with ⟨clock,aI⟩ | ⟨aI,aX⟩
 . rcases bU.kO k with ⟨an,e⟩ | ⟨ds,y,an,aN,e⟩
   . exact .inl ⟨an,by simp only [kA,aI,nC,rP,cm.lD,e]⟩
   . exact .inr ⟨ds,y,an,aN,by simp only [kA,aI,nC,rP,cm.lD,e]⟩
 . rcases bU.kN aX k with ⟨an,e⟩ | ⟨ds,y,an,aN,e⟩
   . exact .inl ⟨an,by simp only [kA,aI,e]⟩
   . exact .inr ⟨ds,y,an,aN,by simp only [kA,aI,e]⟩
end
def B9 (ao:ah) (f:Nat):List (Int × List D)->List cK->Bool
 | [],es=>(match es with | []=>true | _=>false)
 | (n,ds)::eF,es=>(match es with
   | []=>false
   | m::es=>(match m.k with | .int k i=>Jz k .i64&&tZ i n | _=>false)&&B8 ao f ds m.v.cells&&B9 ao f eF es)
def E6:List Int->Bool
 | []=>true
 | n::l=>(l.all fun m=>!tZ n m)&&E6 l
def zd (ao:ah) (f:Nat) (eF:List (Int × List D)):V->Bool
 | .map b=>Nat.blt (cR b) ao.next&&E6 (eF.map Prod.fst)&&(match ao.get b with
   | .mp es _=>B9 ao f eF es
   | .iy es=>B9 ao f eF es
   | _=>false)
 | _=>false
theorem adf:∀n:Int,tZ n n=true
 | .ofNat a=>ao9 a
 | .negSucc a=>ao9 a
theorem Sy:∀{l:List Int},E6 l=true->l.Nodup
 | [],_=>List.nodup_nil
 | n::l,h=>by simp only [E6,amX] at h;refine ao5.2 ⟨fun q=>?_,Sy h.2⟩;have:=anr.1 h.1 n q;rw [adf] at this;cases this
theorem YJ (n:Nat) (v:V):(v.dd n).cells=lL n v.cells:=by cases v<;>simp only [V.dd,V.cells,lL]
section
variable {h ao:ah}
theorem J' {f:Nat}:∀{eF:List (Int × List D)} {es:List cK},B9 ao f eF es=true->k1 (uB h ao) (h.app ao) eF (es.map (cK.dd h.next))
 | [],es,H=>by
   cases es with
   | nil=>exact .nil
   | cons _ _=>cases H
 | (n,ds)::eF,es,H=>by
   cases es with
   | nil=>cases H
   | cons m es=>
     simp only [B9,amX] at H;obtain ⟨⟨J,ad⟩,aD⟩:=H;obtain ⟨mk,bg,born⟩:=m;cases mk<;>simp only at J<;>try (cases J;done)
     simp only [amX] at J;rw [Rt J.1,Eu J.2,anZ];simp only [cK.dd,V.dd];exact .cons (by rw [YJ];exact J9 ad) (J' aD)
theorem SM {f:Nat} {eF:List (Int × List D)} {v:V} (H:zd ao f eF v=true):kL (uB h ao) (h.app ao) eF (v.dd h.next):=by
 cases v<;>simp only [zd] at H<;>try (cases H;done)
 rename_i b;simp only [amX] at H;obtain ⟨⟨J,ad⟩,aD⟩:=H;have J:cR b<ao.next:=anx J
 have al:=GZ h ao J;rw [uH] at al;have aj:uB h ao (kX h.next b):=by unfold uB kX;rw [dX];exact ⟨by omega,by omega⟩
 have a8:Old (h.app ao) (kX h.next b):=by unfold Old kX;rw [dX,LP];omega
 cases ay:ao.get b<;>rw [ay] at aD<;>simp only at aD<;>try (cases aD;done)
 . rw [ay] at al;exact ⟨_,_,rfl,a8,.inl ⟨_,al⟩,J' aD,aj⟩
 . rw [ay] at al;exact ⟨_,_,rfl,a8,.inr ⟨al,Sy ad⟩,J' aD,aj⟩
end
theorem k1.nH {F dn:aU->Prop} {h:ah} {eF:List (Int × List D)} {es:List cK} (H:k1 F h eF es) (w:∀b,F b->dn b):k1 dn h eF es:=by
 induction H with
 | nil=>exact .nil
 | cons aZ t bA=>exact .cons (aZ.nH w) bA
theorem kL.nH {F dn:aU->Prop} {h:ah} {eF:List (Int × List D)} {v:V} (H:kL F h eF v) (w:∀b,F b->dn b):kL dn h eF v:=by obtain ⟨b,es,ag,av,aI,bU,c8⟩:=H.ex;exact ⟨b,es,ag,av,aI,bU.nH w,w b c8⟩
def B' (C:Ctx) (n:Nat) (f:FuncId) (nf:ah->V->Bool):Bool:=match sg C n f [] ah.empty with
 | .val v ao=>nf ao v
 | _=>false
def Db (h:ah) (b:aU):Prop:=h.next<=cR b
section
variable {C:Ctx} (dE:C.P.follows .mixedOrders=true) (aK:e6 C.P) (hy:p0 C) {n:Nat} {f:FuncId} (aA:Nat.beq f dv=false) (ar:C.ext f=none) (hM:∃fn,C.P.funcs[f]? =some fn/\fn.body.isSome=true)
include dE aK hy aA ar hM
theorem Ou {nf:ah->V->Bool} (H:B' C n f nf=true) (h:ah):∃v ao,nf ao v=true/\ff C.P f [] h (v.dd h.next) (h.app ao):=by
 unfold B' at H;cases ao:sg C n f [] ah.empty with
 | fail=>rw [ao] at H;cases H
 | cY _ _=>rw [ao] at H;cases H
 | val v bo=>
   rw [ao] at H;exact ⟨v,bo,H,YS dE aK hy aA ar hM ao h⟩
theorem YR {m:Nat} {eF:List (Int × List D)} (H:B' C n f (fun ao v=>zd ao m eF v)=true) (h:ah):b' C.P f [] h fun x aa=>Ext h aa/\kL (Db h) aa eF x:=by obtain ⟨v,ao,q,c⟩:=Ou dE aK hy aA ar hM H h;exact ⟨_,_,c,LO _ _,(SM q).nH fun b q=>q.1⟩
end
theorem k1.mod {F dn M:aU->Prop} {h aa:ah} {eF:List (Int × List D)} {es:List cK} (m:Mod M h aa) (dE:∀b,F b->Old h b->¬M b/\dn b) (H:k1 F h eF es):k1 dn aa eF es:=by
 induction H with
 | nil=>exact .nil
 | cons aZ t bA=>exact .cons (aZ.mod m dE) bA
theorem kL.mod {F dn M:aU->Prop} {h aa:ah} {eF:List (Int × List D)} {v:V} (m:Mod M h aa) (dE:∀b,F b->Old h b->¬M b/\dn b) (H:kL F h eF v):kL dn aa eF v:=by obtain ⟨b,es,ag,av,aI,bU,c8⟩:=H.ex;obtain ⟨db,mM⟩:=dE b c8 av;exact ⟨b,es,ag,m.cH av,by rw [m.get b av db];exact aI,bU.mod m dE,mM⟩
theorem ahd {M xD:aU->Prop} {h g tH:ah} (a:Mod M h g) (b:Mod xD g tH) (w:∀p,Old h p->xD p->M p):Mod M h tH:=
 ⟨anM a.next b.next,fun p o n=>(b.get p (a.cH o) fun z=>n (w p o z)).trans (a.get p o n)⟩
def dS (b:Nat) (q:aU):Prop:=cR q<b
structure fE (pre:List V) (b size:Nat) (h:ah) (aP:V) (n:Nat) (us:List V):Prop where
 g:h.get (aC b)=.a_ (pre++[aP]) 0 false
 o:c_ (b+1) h size aP n us
 lt:b<h.next
structure jK (pre:List V) (b size:Nat) (h:ah) (aP:V) (aa:ah) (dh:V) (n:Nat) (us:List V):Prop where
 w:fE pre b size aa dh n us
 m:Mod (fun q=>q=aC b\/aP.bj q) h aa
 f:∀q,dh.bj q->aP.bj q\/h.next<=cR q
section
variable {pre:List V} {b size:Nat} {h aa lX:ah} {aP dh Sc:V} {n hz:Nat} {us xh:List V}
theorem fE.bj (W:fE pre b size h aP n us) {q:aU} (aq:aP.bj q):b<cR q:=W.o.base aq
theorem fE.lone (W:fE pre b size h aP n us):aP.one=true/\aP.cells=[aP]/\aP.fK=true:=W.o.v.one
theorem fE.ext (W:fE pre b size h aP n us) (e:Ext h aa):fE pre b size aa aP n us:=
 ⟨by rw [e.get _ (by unfold Old;rw [dX];exact W.lt)];exact W.g,W.o.ext e,aou W.lt e.next⟩
theorem fE.refl (W:fE pre b size h aP n us):jK pre b size h aP h aP n us:=⟨W,Mod.refl _ _,fun q z=>.inl z⟩
theorem jK.trans (A:jK pre b size h aP aa dh n us) (B:jK pre b size aa dh lX Sc hz xh):jK pre b size h aP lX Sc hz xh:=by
 refine ⟨B.w,ahd A.m B.m fun p o z=>?_,fun q z=>?_⟩
 . rcases z with z | z
   . exact .inl z
   . rcases A.f p z with y | y
     . exact .inr y
     . unfold Old at o;omega
 . rcases B.f q z with y | y
   . exact A.f q y
   . exact .inr (anM A.m.next y)
theorem jK.ext (A:jK pre b size h aP aa dh n us) (e:Ext aa lX):jK pre b size h aP lX dh n us:=
 ⟨A.w.ext e,A.m.trans (e.mod _),A.f⟩
theorem jK.b9 {a1:ah} (e:Ext a1 h) (A:jK pre b size h aP aa dh n us):jK pre b size a1 aP aa dh n us:=
 ⟨A.w,(e.mod _).trans A.m,fun q z=>(A.f q z).imp id fun y=>anM e.next y⟩
theorem jK.gp (A:jK pre b size h aP aa dh n us) (W:fE pre b size h aP hz xh):∀q,dS b q->Old h q->¬(q=aC b\/aP.bj q)/\dS b q:=fun q z o=>by
 refine ⟨fun y=>?_,z⟩;unfold dS at z;rcases y with rfl | y
 . rw [dX] at z;omega
 . have:=W.bj y;omega
theorem jK.cs (A:jK pre b size h aP aa dh n us) (W:fE pre b size h aP hz xh) {ds:List D} {ai:List V} (H:cj (dS b) h ds ai):cj (dS b) aa ds ai:=H.mod A.m (A.gp W)
theorem jK.ek (A:jK pre b size h aP aa dh n us) (W:fE pre b size h aP hz xh) {k:Nat} {es:List (List D)} {v:V} (H:cq (dS b) h k es v):cq (dS b) aa k es v:=H.mod A.m (A.gp W)
theorem jK.get (A:jK pre b size h aP aa dh n us) {q:aU} (o:Old h q) (J:q≠aC b) (ad:¬aP.bj q):aa.get q=h.get q:=A.m.get q o fun y=>y.elim J ad
theorem fE.put (W:fE pre b size h aP n us) {J:ah} {v:V} (S:c_ (b+1) J size v hz xh) (m:Mod aP.bj h J) (f:∀q,v.bj q->aP.bj q\/h.next<=cR q):
 J.get (aC b)=.a_ (pre++[aP]) 0 false/\jK pre b size h aP (J.set (aC b) (.a_ (pre++[v]) 0 false)) v hz xh:=by
 have aj:Old h (aC b):=by unfold Old;rw [dX];exact W.lt
 have al:J.get (aC b)=.a_ (pre++[aP]) 0 false:=by rw [m.get _ aj fun y=>by have:=W.bj y;rw [dX] at this;omega];exact W.g
 refine ⟨al,⟨by rw [fm,anb rfl],?_,by rw [pG];exact aou W.lt m.next⟩,?_,f⟩
 . refine S.mod ((Mod.refl (fun q=>q=aC b) J).set (fun _=>rfl) _) fun q z y=>?_;have:=S.base z;rw [y,dX] at this;omega
 . exact (m.mono (xD:=fun q=>q=aC b\/aP.bj q) fun q _ y=>Or.inr y).set (b:=aC b) (fun _=>.inl rfl) _
theorem fE.one (W:fE pre b size h aP n us) (cy:1<=size) {cs:List V} (hlen:(n+1) * size<=top) (gZ:cs.length=size) (a8:fq cs=true):
 ∃v J,iY size aP (.slice (aC h.next) 0 1 1) (h.new (.a_ cs 0 false))=.val v J/\J.get (aC b)=.a_ (pre++[aP]) 0 false/\jK pre b size h aP (J.set (aC b) (.a_ (pre++[v]) 0 false)) v (n+1) (us++cs):=by
 obtain ⟨v,J,ag,av,aI,bU,c8⟩:=xN cy W.o (Nat.succ_le_of_lt W.lt) hlen gZ a8;obtain ⟨cf,cd⟩:=W.put av aI fun q z=>(c8 q z).imp id fun y=>Nat.le_of_lt y;exact ⟨v,J,ag,cf,cd⟩
end
def U7 (P:Program) (f:FuncId) (args:List V) (u:Option V) (h:ah) (eV:Option V) (aa:ah):Prop:=
 (∃fn,P.funcs[f]? =some fn/\fn.body.isSome=true)/\∀(aB:Fr) E w xs m,bm E args xs->jL E u m->ba aB E h w->
  CallsDIn (cb none) 0 P f xs.toArray m w fun e dA w'=>∃aw x,e=.returned x/\E.le aw/\jL aw eV (settle dA)/\ba aB aw aa w'
def u5 (P:Program) (f:FuncId) (args:List V) (u:Option V) (h:ah) (K:Option V->ah->Prop):Prop:=∃eV aa,U7 P f args u h eV aa/\K eV aa
def mT (P:Program):List V->Option V->ah->(Option V->ah->Prop)->Prop
 | [],u,h,K=>K u h
 | .func f args::ds,u,h,K=>u5 P f args u h fun eV aa=>mT P ds eV aa K
 | .ptr b _::ds,u,h,K=>(match h.get b with
   | .gj=>mT P ds u (h.set b .dead) K
   | _=>False)
 | _::_,_,_,_=>False
section
variable {P:Program} {az:Nat}
theorem K_:∀{ai:List V} {u:Option V} {h:ah} {K:Option V->ah->Prop},mT P ai u h K->∃eV aa,K eV aa/\mT P ai u h fun a b=>a=eV/\b=aa
 | [],u,h,K,H=>⟨u,h,H,rfl,rfl⟩
 | v::ai,u,h,K,H=>by
   cases v<;>simp only [mT] at H<;>try (exact H.elim)
   . rename_i b o;cases al:h.get b<;>rw [al] at H<;>simp only at H<;>try (exact H.elim)
     obtain ⟨eV,aa,ag,av⟩:=K_ H;exact ⟨eV,aa,ag,by simp only [mT];rw [al];exact av⟩
   . obtain ⟨ki,J,aiL,H⟩:=H;obtain ⟨eV,aa,ag,av⟩:=K_ H;exact ⟨eV,aa,ag,by simp only [mT];exact ⟨ki,J,aiL,av⟩⟩
theorem La (aK:e6 P) {aB:Fr} {fn:Func} {tmps:Array Value} {R:Ending->World->Prop} {eV:Option V} {aa:ah}:∀(ai:List V) (ds:List Deferred) (E:Env) (u:Option V) (h:ah) (w:World) (m:FrameMode),
 mT P ai u h (fun a b=>a=eV/\b=aa)->mm E ai ds->jL E u m->ba aB E h w->(∀aw dA w',E.le aw->jL aw eV dA->ba aB aw aa w'->LeavesInM (cb none) 0 P fn tmps R [] dA w')->LeavesInM (cb none) 0 P fn tmps R ds m w
 | [],ds,E,u,h,w,m,he,aZ,hu,s,cV=>by obtain ⟨rfl,rfl⟩:=he;simp only [mm] at aZ;subst aZ;exact cV E m w (Env.le.refl E) hu s
 | v::ai,ds,E,u,h,w,m,he,aZ,hu,s,cV=>by
   obtain ⟨d,lT,rfl,vT,vU⟩:=aZ;cases v with
   | func f args=>
     simp only [mT] at he;obtain ⟨ki,J,⟨⟨DT,hM,aj⟩,c'⟩,he⟩:=he;obtain ⟨aA,cap,aE,ax⟩:=vT;refine ⟨hu.run,.inr ⟨fun h=>by simp at h,_,cap,f,d.args++cap,aE,?_,fun _ _=>trivial,?_⟩⟩
     . rw [aE];simp only [invoke];exact s7 aK hM aj _ w
     . have e:d.args++cap=(d.args.toList++cap.toList).toArray:=by apply aoH;simp
       rw [e];refine CallsDIn.mono (c' aB E w _ m ax hu s) fun e m1 b4 aq=>?_;obtain ⟨aY,x,rfl,ag,av,aI⟩:=aq;exact La aK ai lT aY ki J b4 (settle m1) he (vU.mono ag) av aI fun aH m2 b1 cf cd eU=>cV aH m2 b1 (ag.trans cf) cd eU
   | ptr b off=>
     simp only [mT] at he;cases al:h.get b<;>rw [al] at he<;>simp only at he<;>try (exact he.elim)
     obtain ⟨p,ak,Io⟩:=vT;have aj:=s.at ak;rw [al] at aj;obtain ⟨p',hN,dr,bo⟩:=aj;rw [ak] at hN;cases hN;have l3:=(am1.1 bo).1
     let b4:World:={w with heap:=w.heap.setIfInBounds p.bj (.deferred none)}
     have rz:(Instr.takeDeferred p.bj).run P w=.ok [] b4:=by
      have fp:(getObj p.bj).run P w=.ok (.deferred (some [])) w:=by simp only [getObj,Sem.run,bo]
      have qv:(setObj p.bj (.deferred none)).run P w=.ok () b4:=by simp only [setObj,Sem.run,bo];rfl
      simp only [Instr.takeDeferred,Sem.run_bind,fp,Result.andThen_ok,qv,Sem.run_pure]
     have s1:ba aB E (h.set b .dead) b4:=s.gone (by rw [al];rfl) ak dr (by simp [b4]) (fun j bJ=>by simp only [b4,ank];rw [am7 (fun e=>bJ e.symm)]) rfl rfl rfl;refine ⟨hu.run,.inl ⟨p.bj,b4,by rw [Io],rz,?_⟩⟩;exact La aK ai lT E u _ b4 m he vU hu s1 cV
   | _=>simp [mT] at he
theorem Pc {E:Env} {fn:Func} {args:List V} {xs:List Value} (ar:bm E args xs) (gz:fn.ntmps<=top) (j6:args.length<=fn.ntmps):
 j0 E fn.ntmps (bz.a_ args) {tmps:=xs.toArray++Array.replicate (fn.ntmps-xs.toArray.size) undef,defers:=[]}:=by
 have hlen:=ar.length;have cy:xs.toArray.size<=fn.ntmps:=by simp;omega
 have iv:(bz.a_ args) eh=.bad:=by rw [sX,anv (by unfold eh;unfold top at gz;omega)];rfl
 refine ⟨by simp;omega,by rw [iv];simp [lO],fun t _=>?_⟩;rw [sX];cases al:args[t]? with
 | none=>simp [Rel]
 | some v=>
   obtain ⟨y,bc,aJ⟩:=ar.get t v al;simp only [aop];have yI:t<xs.length:=(anl.1 bc).1;rw [anq,aol (by simpa using yI)];simp only [List.getElem?_toArray,bc,aop];exact aJ
theorem Zb (dE:P.follows .mixedOrders=true) (aK:e6 P) {f:FuncId} {fn:Func} {c:Code} {args:List V} {h:ah} {K:V->ah->Prop} (aA:P.funcs[f]? =some fn) (aj:fn.body=some c)
 (gz:Nat.ble fn.ntmps top=true) (bc:Nat.beq f dv=false) (j6:Nat.ble args.length fn.ntmps=true) {rc:bE} {eI:List p1} (wu:gE P fn.ntmps c=rc) (sG:nF P fn.ntmps fn.results.toList=eI)
 (H:gK P rc (bz.a_ args) h fun e r aa=>e.ends/\mT P (r eh).list none aa fun u ad=>u=none/\∃ai,kp r ad eI=some ai/\K (oneOf ai) ad):b' P f args h K:=by
 subst wu sG;rw [ann] at gz j6;have a8:Out fn.ntmps (bz.a_ args):=by intro t aE _;rw [sX,anv (by omega)];rfl
 obtain ⟨e,bI,aa,⟨gy,aq⟩,kt,A2⟩:=K' gz dE aK c _ h _ a8 H;obtain ⟨hs,ad,⟨rfl,ai,Bq,dU⟩,sy⟩:=K_ aq;have hX:f≠dv:=fun e=>by subst e;simp at bc
 refine ⟨oneOf ai,ad,⟨hX,.inl ⟨⟨fn,aA,by rw [aj];rfl⟩,fun aB E w xs ar s=>?_⟩⟩,dU⟩;refine si.1 (callsIn_of_wp_marks (F:=cb none) (n:=0) aA aj trivial ?_);have k:=Pc ar gz j6;have fin:∀aw bt w',E.le aw->j0 aw fn.ntmps bI bt->ba aB aw aa w'->LeavesInM (cb none) 0 P fn bt.tmps (fun e w'=>∃aw x,e=.returned x/\E.le aw/\Rel aw (oneOf ai) x/\ba aB aw ad w') bt.defers .returning w':=by intro aw bt w' ag av aI;obtain ⟨c1,eo⟩:=x4 kt.1;refine La aK _ bt.defers aw none aa w' .returning sy av.defers.list rfl aI fun aH m2 b1 cf cd eU=>?_;simp only [jL] at cd;subst cd;have ay:RegRel0 aH fn.ntmps c1 bt:=⟨av.size,fun t aE=>by have:=congrFun eo t;simp only [eM] at this;rw [this];exact Rel.mono cf _ _ (av.af t (pF aE))⟩;obtain ⟨x,fe,fu⟩:=Cq (P:=P) ay eU (x2 eo Bq);exact ⟨x,fe,aH,x,rfl,ag.trans cf,fu,eU⟩
 refine (A2 none aB E _ w (.inl rfl) k s _ fun aw bt w' ag av aI=>?_).wp;have:=fin aw bt w' ag av aI;cases e with
 | normal=>exact this
 | ret=>exact this
 | exit i=>exact gy.elim
theorem Zh (dE:P.follows .mixedOrders=true) (aK:e6 P) {f:FuncId} {fn:Func} {c:Code} {args:List V} {u:Option V} {h:ah} {K:Option V->ah->Prop} (aA:P.funcs[f]? =some fn) (aj:fn.body=some c)
 (gz:Nat.ble fn.ntmps top=true) (j6:Nat.ble args.length fn.ntmps=true) {rc:bE} {eI:List p1} (wu:gE P fn.ntmps c=rc) (sG:nF P fn.ntmps fn.results.toList=eI) (kv:rc.plain=true)
 (H:gK P rc (bz.a_ args) h fun e r aa=>e.ends/\∃ai,kp r aa eI=some ai/\K u aa):u5 P f args u h K:=by
 subst wu sG;rw [ann] at gz j6;have a8:Out fn.ntmps (bz.a_ args):=by intro t aE _;rw [sX,anv (by omega)];rfl
 have iv:(bz.a_ args) eh=.bad:=by rw [sX,anv (by unfold eh;unfold top at gz;omega)];rfl
 obtain ⟨e,bI,aa,⟨gy,ai,Bq,dU⟩,kt,A2⟩:=K' gz dE aK c _ h _ a8 H;have wx:bI eh=.bad:=(kt.2 kv).trans iv;refine ⟨u,aa,⟨⟨fn,aA,by rw [aj];rfl⟩,fun aB E w xs m ar hu s=>?_⟩,dU⟩;have k:=Pc ar gz j6;refine CallsDIn.mono (callsDIn_of_wp (R:=fun e w'=>∃aw x,e=.returned x/\E.le aw/\ba aB aw aa w') aA aj trivial ?_) fun dI dA w' aq=>?_
 . refine (A2 none aB E _ w (.inl rfl) k s _ fun aw bt w' ag av aI=>?_).wp;obtain ⟨c1,eo⟩:=x4 kt.1;have aZ:bt.defers=[]:=by have:=av.defers;rw [wx] at this;exact this
   have ay:RegRel0 aw fn.ntmps c1 bt:=⟨av.size,fun t aE=>by have:=congrFun eo t;simp only [eM] at this;rw [this];exact av.af t (pF aE)⟩;obtain ⟨x,cf,cd⟩:=Cq (P:=P) ay aI (x2 eo Bq);cases e with
   | normal=>exact ⟨aZ,x,cf,aw,x,rfl,ag,aI⟩
   | ret=>exact ⟨aZ,x,cf,aw,x,rfl,ag,aI⟩
   | exit i=>exact gy.elim
 . obtain ⟨rfl,aw,x,rfl,ag,aI⟩:=aq;exact ⟨aw,x,rfl,ag,by rw [hu.settle];exact hu.mono ag,aI⟩
end
end
end Go.Proofs.YtefceblncmdkhaaGreatDoor.bd
