/- The abstract machine and its walks (a verified interpreter of the model's code: plain definitions and lemmas, no condition). Printed by a program from longer texts: names made short. -/
import Derived.Test.YtjbiefneffiogaaGreatM3
import Derived.ChangeArms
import Derived.DataReads
import Derived.ChangeBears
import Derived.Carry
import Derived.OpenShut
import Derived.ChangeSame
import Derived.Handed
import Derived.HandedShaped
import Derived.Test.YtjbiefneffiogaaGreatM1
import Derived.Shelf.SlIterI.Sorted
import Derived.Shelf.SlIterI.Nil
import Derived.WideShapes
set_option linter.unusedSectionVars false
set_option linter.unusedSimpArgs false
set_option linter.unusedVariables false
namespace Go.Proofs.YtjbiefneffiogaaGreat.bA
variable [Lay]
open Go Go.RowKit
theorem ck.below {aZ:Fr} {E:Env} {h:aj} {w aW:World} (s:ck aZ E h w) (ah:Below w.heap.size w aW):ck aZ E h aW:=by
 have gd:aZ.w.heap.size≤w.heap.size:=s.frame.size
 have hi:∀(k:Nat) (o:Obj),w.heap[k]? =some o→aW.heap[k]? =some o:=by
  intro k o an
  rw [ah.block k,an]
  by_cases aX:k<w.heap.size
  · exact aX
  · rw [Array.getElem?_eq_none (by omega)] at an
    cases an
 refine ⟨fun b aT=>?_,s.qU,s.inj,s.fresh,s.frame.trans (ah.mono gd),s.laid,s.base⟩
 have:=s.bb b aT
 cases an:h.get b<;>rw [an] at this<;>simp only [jM] at this ⊢
 · obtain ⟨aQ,p,c,el,cF,aB,a',cn,ea⟩:=this
   exact ⟨aQ,p,c,el,cF,aB,a',hi _ _ cn,ea⟩
 · obtain ⟨aQ,p,c,el,cF,aB,a',cn,ea⟩:=this
   exact ⟨aQ,p,c,el,cF,aB,a',hi _ _ cn,ea⟩
 · obtain ⟨p,aQ,aB,a',cn⟩:=this
   exact ⟨p,aQ,aB,a',hi _ _ cn⟩
 · obtain ⟨p,a,aQ,aB,a',cn⟩:=this
   exact ⟨p,a,aQ,aB,hi _ _ a',cn⟩
theorem VV {P:Program} {f:FuncId} {v:V} (bk:∀E x,x=.bool true→Rel E v x) (vB:∃fn,P.funcs[f]? =some fn∧fn.body.isSome=true) (H:∀w,Lay.ok w→Calls P f #[] w fun e aW=>e=.returned (.bool true)∧Below w.heap.size w aW) (h:aj):
 lr P f [] h v h:=by
 refine .inl ⟨vB,fun aZ E w xs az s=>?_⟩
 simp only [bY] at az
 subst az
 refine (H w (Lay.hi s.laid s.frame)).mono fun e aW q=>?_
 obtain ⟨rfl,ah⟩:=q
 exact ⟨E,_,rfl,fun _ _ q=>q,bk E _ rfl,s.below ah⟩
noncomputable def sa (E:Env) (h:aj) (p:nO):Env:=fun b=>if b=ao h.next then some p else E b
theorem RM (E:Env) (h:aj) (p:nO):sa E h p (ao h.next)=some p:=if_pos rfl
theorem Jd {aZ:Fr} {E:Env} {h:aj} {w:World} (s:ck aZ E h w) (p:nO):E.le (sa E h p):=fun b q a2=>by
 unfold sa
 rw [if_neg (fun e=>by rw [e,s.fresh _ (Nat.le_refl _)] at a2;cases a2)]
 exact a2
theorem af1 {W:World} {E:Env} {h:aj} (s:ck ⟨W,fun _=>none⟩ E h W) (p:nO) (k:cT) (bD:k.own=false) (an:jM W.heap.size (sa E h p) W (ao h.next) k):
 ck ⟨W,fun _=>none⟩ (sa E h p) (h.new k) W:=by
 refine ⟨fun b _=>?_,fun _ _ h=>(by cases h),fun b b1 q hk ae ak aI bh a2=>?_,fun i aG=>?_,s.frame,s.laid,fun b q n cs st ae aI=>by
  rw [eB] at ae
  by_cases cl:ao h.next=b
  · rw [if_pos cl] at ae;rw [ae] at bD;cases bD
  · rw [if_neg cl] at ae
    unfold sa at aI
    rw [if_neg (fun e=>cl e.symm)] at aI
    exact s.base _ _ _ _ _ ae aI⟩
 · rw [eB]
   by_cases e:ao h.next=b
   · subst e
     rw [if_pos rfl]
     exact an
   · rw [if_neg e]
     exact (s.bb b rfl).mono (Jd s p)
 · rw [eB] at ae ak
   by_cases cl:ao h.next=b
   · rw [if_pos cl,bD] at ae;cases ae
   · by_cases dr:ao h.next=b1
     · rw [if_pos dr,bD] at ak;cases ak
     · rw [if_neg cl] at ae
       rw [if_neg dr] at ak
       unfold sa at aI bh
       rw [if_neg (fun e=>cl e.symm)] at aI
       rw [if_neg (fun e=>dr e.symm)] at bh
       exact s.inj b b1 q hk ae ak aI bh a2
 · rw [cO] at aG
   unfold sa
   rw [if_neg (fun e=>by have:=og e;omega)]
   exact s.fresh i (by omega)
theorem af2 {W:World} {E:Env} {h:aj} (s:ck ⟨W,fun _=>none⟩ E h W) {k base cap:Nat} {c:Array Value} {el:TypeId} {cF:Nat × Nat} (an:W.heap[k]? =some (.cells c el cF)) {ai:List V}
 (aD:base+ai.length≤c.size) (bd:∀i v y,ai[i]? =some v→c[base+i]? =some y→Rel E v y):
 ck ⟨W,fun _=>none⟩ (sa E h ⟨k,base,cap⟩) (h.new (.ro ai)) W:=by
 refine af1 s _ _ rfl ?_
 have aX:k<W.heap.size:=by
  by_cases aX:k<W.heap.size
  · exact aX
  · rw [Array.getElem?_eq_none (by omega)] at an
    cases an
 refine ⟨trivial,⟨k,base,cap⟩,c,el,cF,RM _ _ _,aX,an,aD,fun i y aG bK=>?_⟩
 have:T.get .bad (ao i) (g' .e 0 ai)=ai[i]:=by
  have:=Cz ai 0 i .e
  rw [Nat.zero_add] at this
  rw [this,if_pos aG,List.getElem?_eq_getElem aG]
  rfl
 rw [this]
 exact Rel.mono (Jd s _) _ _ (bd i _ y (List.getElem?_eq_getElem aG) bK)
section
variable (P:Program)
def yt:List Field→Nat→Option Nat
 | [],o=>some o
 | f::bg,o=>if f.offset=o then yt bg (o+P.cellsOf f.type) else none
def wL:Bool:=(List.range P.types.size).all fun t=>match P.underlying t with
 | some (.struct bg)=>decide (yt P bg.toList 0=some (P.cellsOf t))
 | _=>true
def er (h:aj):Nat→Nat→TypeId→List V→Prop
 | 0,_,_,_=>False
 | n+1,m,t,ai=>match P.underlying t with
   | some .bool=>∃b,ai=[.bool b]
   | some (.int k)=>∃i,ai=[.int k i]∧(Lit.int k i).wf=true
   | some .string=>∃s:List UInt8,ai=[.str s]∧s.length+1≤m
   | some (.slice e)=>1≤m∧(ai=[.ay]∨(∃b i j k,ai=[.ia b i j k])∨P.cellsOf e=0∨
      ∃b len cap,ai=[.slice b 0 len cap]∧0<len∧len≤cap∧Old h b∧∃us,Rd h b us∧us.length=len * P.cellsOf e∧∃ms:List Nat,ms.length=len∧ms.sum+1≤m∧
       ∀(i k:Nat),ms[i]? =some k→1≤k∧er h n k e ((us.drop (i * P.cellsOf e)).take (P.cellsOf e)))
   | some (.struct bg)=>ai.length=P.cellsOf t∧∃ms:List Nat,ms.length=bg.toList.length∧ms.sum+1≤m∧∀(i:Nat) (f:Field) (k:Nat),bg.toList[i]? =some f→ms[i]? =some k→1≤k∧er h n k f.type ((ai.drop f.offset).take (P.cellsOf f.type))
   | some (.pointer e)=>1≤m∧(ai=[.ch]∨P.cellsOf e=0∨∃b,ai=[.ptr b 0]∧Old h b∧∃us,Rd h b us∧us.length=P.cellsOf e∧∃k,k+1≤m∧er h n k e us)
   | some (.map _ _)=>ai=[.lN]∨ai=[.bad]
   | some (.interface _)=>ai=[.nilIface]∨ai=[.bad]
   | _=>True
end
theorem er.ext {P:Program} {h aa:aj} (e:Ext h aa):∀(n m:Nat) (t:TypeId) (ai:List V),er P h n m t ai→er P aa n m t ai
 | 0,_,_,_,H=>H
 | n+1,m,t,ai,H=>by
   unfold er at H ⊢
   split at H<;>try exact H
   · refine ⟨H.1,?_⟩
     rcases H.2 with H | H | H | ⟨b,len,cap,ae,ak,aC,dZ,us,bQ,cB,ms,fX,jJ,o4⟩
     · exact .inl H
     · exact .inr (.inl H)
     · exact .inr (.inr (.inl H))
     · exact .inr (.inr (.inr ⟨b,len,cap,ae,ak,aC,e.b6 dZ,us,e.rd dZ bQ,cB,ms,fX,jJ,fun i k an=>⟨(o4 i k an).1,er.ext e n _ _ _ (o4 i k an).2⟩⟩))
   · obtain ⟨ae,ms,ak,aC,bq⟩:=H
     exact ⟨ae,ms,ak,aC,fun i f k av an=>⟨(bq i f k av an).1,er.ext e n _ _ _ (bq i f k av an).2⟩⟩
   · refine ⟨H.1,?_⟩
     rcases H.2 with H | H | ⟨b,ae,dZ,us,bQ,cB,k,fX,jJ⟩
     · exact .inl H
     · exact .inr (.inl H)
     · exact .inr (.inr ⟨b,ae,e.b6 dZ,us,e.rd dZ bQ,cB,k,fX,er.ext e n _ _ _ jJ⟩)
mutual
def hf {H:Type}:DataW H→Nat
 | .lit (.string bytes)=>bytes.length+1
 | .lit _=>1
 | .nil=>1
 | .ptr d=>hf d+1
 | .slice elems spare=>nj elems+nj spare+1
 | .agg parts=>nj parts+1
 | .iface _ d=>hf d+1
 | .map entries=>B8 entries+1
 | .held _=>1
def nj {H:Type}:List (DataW H)→Nat
 | []=>0
 | d::r=>hf d+nj r
def B8 {H:Type}:List (Lit × DataW H)→Nat
 | []=>0
 | x::r=>Fl x+B8 r
def Fl {H:Type}:Lit × DataW H→Nat
 | (.string bytes,d)=>bytes.length+hf d+1
 | (_,d)=>hf d+1
end
theorem sA {H:Type} (d:DataW H):1≤hf d:=by
 cases d with
 | lit l=>cases l<;>simp [hf]
 | _=>simp [hf]
theorem Fk {H:Type}:∀l:List (DataW H),nj l=(l.map hf).sum
 | []=>by simp [nj]
 | d::r=>by simp only [nj,List.map_cons,List.sum_cons,Fk r]
theorem Cb {w:World} {base:Nat} {a:Addr} {n:Nat} {l:List Value} (h:w.cells? base a n=some l):l.length=n∧∀i,i<n→w.cell? (a.add i)=l[i]? :=by
 unfold World.cells? at h
 split at h
 · exact ⟨by simpa using mapM_some_length h,fun i aG=>mapM_some_get h i i (by simp [aG])⟩
 · cases h
theorem QJ {E ba:Env} (he:E.le ba) {ai:List V} {l:List Value} (H:bY E ai l):bY ba ai l:=bY.mono he ai l H
section
variable {H:Type} {enc:TypeId × Value→H} {P:Program} {W:World} {base:Nat} {sp:Nat→Bool} {held:Bool}
def sj (P:Program) (W:World) (n m:Nat) (t:TypeId) (cs:List Value):Prop:=
 ∀(E:Env) (h:aj),ck ⟨W,fun _=>none⟩ E h W→∃ba aa ai,E.le ba∧Ext h aa∧ck ⟨W,fun _=>none⟩ ba aa W∧bY ba ai cs∧ai.length=cs.length∧er P aa n m t ai
theorem Pd (n size:Nat) (e:TypeId):∀(pieces:List (List Value)) (ms:List Nat),ms.length=pieces.length→(∀(i:Nat) (l:List Value) (k:Nat),pieces[i]? =some l→ms[i]? =some k→l.length=size∧sj P W n k e l)→
 ∀(E:Env) (h:aj),ck ⟨W,fun _=>none⟩ E h W→∃ba aa us,E.le ba∧Ext h aa∧ck ⟨W,fun _=>none⟩ ba aa W∧bY ba us pieces.flatten∧us.length=pieces.length * size∧
  ∀(i k:Nat),ms[i]? =some k→er P aa n k e ((us.drop (i * size)).take size)
 | [],[],_,_,E,h,s=>⟨E,h,[],fun _ _ q=>q,Ext.refl h,s,rfl,by simp,fun i k aG=>by simp at aG⟩
 | [],_::_,aK,_,_,_,_=>by simp at aK
 | _::_,[],aK,_,_,_,_=>by simp at aK
 | l::ls,m::ms,vH,aT,E,h,s=>by
   obtain ⟨aK,H⟩:=aT 0 l m rfl rfl
   obtain ⟨ic,ae,ai,bw,b3,a3,a4,a5,jR⟩:=H E h s
   obtain ⟨eP,ak,us,b0,cG,fa,gZ,hp,iY⟩:=Pd n size e ls ms (by simpa using vH) (fun i l k aQ aB=>aT (i+1) l k (by simpa using aQ) (by simpa using aB)) ic ae a3
   refine ⟨eP,ak,ai++us,bw.trans b0,b3.trans cG,fa,?_,?_,?_⟩
   · rw [List.flatten_cons]
     exact bY.append (QJ b0 a4) gZ
   · rw [List.length_append,hp,a5,aK,List.length_cons,Nat.add_mul]
     omega
   · intro i k aG
     cases i with
     | zero=>
       rw [Nat.zero_mul,List.drop_zero,List.take_left' (by rw [a5,aK])]
       simp only [List.getElem?_cons_zero,Option.some.injEq] at aG
       subst aG
       exact er.ext cG _ _ _ _ jR
     | succ i=>
       rw [Nat.add_mul,Nat.one_mul,Nat.add_comm,←List.drop_drop,List.drop_left' (by rw [a5,aK])]
       exact iY i k (by simpa using aG)
theorem Pc (n:Nat):∀(bg:List Field) (ms:List Nat) (o dP:Nat) (cs:List Value),yt P bg o=some dP→cs.length=dP→ms.length=bg.length→(∀(i:Nat) (f:Field) (k:Nat),bg[i]? =some f→ms[i]? =some k→sj P W n k f.type ((cs.drop f.offset).take (P.cellsOf f.type)))→
 o≤dP∧∀(E:Env) (h:aj),ck ⟨W,fun _=>none⟩ E h W→∃ba aa ai,E.le ba∧Ext h aa∧ck ⟨W,fun _=>none⟩ ba aa W∧bY ba ai (cs.drop o)∧ai.length=dP-o∧
  ∀(i:Nat) (f:Field) (k:Nat),bg[i]? =some f→ms[i]? =some k→o≤f.offset∧er P aa n k f.type ((ai.drop (f.offset-o)).take (P.cellsOf f.type))
 | [],_::_,_,_,_,_,_,vH,_=>by simp at vH
 | _::_,[],_,_,_,_,_,vH,_=>by simp at vH
 | [],[],o,dP,cs,aJ,aK,_,_=>by
   simp only [yt,Option.some.injEq] at aJ
   subst aJ
   refine ⟨Nat.le_refl _,fun E h s=>⟨E,h,[],fun _ _ q=>q,Ext.refl h,s,?_,by simp,fun i f k av=>by simp at av⟩⟩
   rw [List.drop_eq_nil_of_le (by omega)]
   rfl
 | f::bg,m::ms,o,dP,cs,aJ,aK,vH,aT=>by
   simp only [yt] at aJ
   by_cases av:f.offset=o
   · rw [if_pos av] at aJ
     obtain ⟨bF,bz⟩:=Pc n bg ms (o+P.cellsOf f.type) dP cs aJ aK (by simpa using vH) (fun i f k aQ aB=>aT (i+1) f k (by simpa using aQ) (by simpa using aB))
     refine ⟨by omega,fun E h s=>?_⟩
     have YI:=aT 0 f m rfl rfl
     obtain ⟨ic,ae,ai,bw,b3,a3,a4,a5,jR⟩:=YI E h s
     obtain ⟨eP,ak,us,b0,cG,fa,gZ,hp,iY⟩:=bz ic ae a3
     have Ho:ai.length=P.cellsOf f.type:=by rw [a5,List.length_take,List.length_drop,av];omega
     refine ⟨eP,ak,ai++us,bw.trans b0,b3.trans cG,fa,?_,?_,?_⟩
     · have e:cs.drop o=(cs.drop f.offset).take (P.cellsOf f.type)++cs.drop (o+P.cellsOf f.type):=by
        rw [av,←List.drop_drop,List.take_append_drop]
       rw [e]
       exact bY.append (QJ b0 a4) gZ
     · rw [List.length_append,Ho,hp]
       omega
     · intro i g k bp an
       cases i with
       | zero=>
         simp only [List.getElem?_cons_zero,Option.some.injEq] at bp an
         subst bp an
         refine ⟨by omega,?_⟩
         rw [av,Nat.sub_self,List.drop_zero,List.take_left' Ho]
         exact er.ext cG _ _ _ _ jR
       | succ i=>
         obtain ⟨cl,dr⟩:=iY i g k (by simpa using bp) (by simpa using an)
         refine ⟨by omega,?_⟩
         rw [show g.offset-o=P.cellsOf f.type + (g.offset - (o+P.cellsOf f.type)) from by omega,←List.drop_drop,List.drop_left' Ho]
         exact dr
   · rw [if_neg av] at aJ
     cases aJ
theorem MU {w:World} {a:Addr} {y:Value} (h:w.cell? a=some y):a.spot=none∧∃c el cF,w.heap[a.block]? =some (.cells c el cF)∧c[a.off]? =some y:=by
 refine ⟨World.cell?_spot h,?_⟩
 unfold World.cell? at h
 split at h
 · rename_i c el cF c4
   split at h
   · cases h
   · exact ⟨c,el,cF,c4,h⟩
 · cases h
theorem SR (a:Addr) (n:Nat):(a.add n).block=a.block:=by unfold Addr.add;split<;>rfl
theorem SS (a:Addr) (n:Nat):(a.add n).off=a.off+n:=by unfold Addr.add;split<;>simp_all
theorem aeL {w:World} {a:Addr} {l:List Value} (al:0<l.length) (h:∀i,i<l.length→w.cell? (a.add i)=l[i]?):
 a.spot=none∧∃c el cF,w.heap[a.block]? =some (.cells c el cF)∧a.off+l.length≤c.size∧∀i,i<l.length→c[a.off+i]? =l[i]? :=by
 have xK:w.cell? (a.add 0)=some l[0]:=by rw [h 0 al];exact List.getElem?_eq_getElem al
 obtain ⟨s1,c,el,cF,s2,iu⟩:=MU xK
 have bZ:a.add 0=a:=by unfold Addr.add;simp
 rw [bZ] at s1 s2 iu
 have key:∀i,i<l.length→c[a.off+i]? =l[i]? :=by
  intro i aG
  have q:=h i aG
  rw [List.getElem?_eq_getElem aG] at q ⊢
  obtain ⟨_,nQ,ahY,ah3,t2,t3⟩:=MU q
  rw [SR,s2] at t2
  rw [SS] at t3
  simp only [Option.some.injEq,Obj.cells.injEq] at t2
  obtain ⟨rfl,_,_⟩:=t2
  exact t3
 refine ⟨s1,c,el,cF,s2,?_,key⟩
 have:=key (l.length-1) (by omega)
 rw [List.getElem?_eq_getElem (by omega)] at this
 have aX:=(Array.getElem?_eq_some_iff.1 this).1
 omega
theorem RN {E:Env} {h:aj} (s:ck ⟨W,fun _=>none⟩ E h W) {a:Addr} {cap:Nat} {l:List Value} (al:0<l.length) (aD:∀i,i<l.length→W.cell? (a.add i)=l[i]?) {us:List V} (bd:bY E us l):
 ∃ba aa b,E.le ba∧Ext h aa∧ck ⟨W,fun _=>none⟩ ba aa W∧Old aa b∧a.spot=none∧ba b=some ⟨a.block,a.off,cap⟩∧Rd aa b us:=by
 obtain ⟨s1,c,el,cF,s2,iu,pk⟩:=aeL al aD
 have CZ:us.length=l.length:=(bY.length bd).symm
 refine ⟨sa E h ⟨a.block,a.off,cap⟩,h.new (.ro us),ao h.next,Jd s _,(Ext.refl h).new _,af2 s s2 (by omega) fun i v y bk bK=>?_,uI,s1,RM _ _ _,.inl (gi _)⟩
 have aG:i<l.length:=by
  have:=(List.getElem?_eq_some_iff.1 bk).1
  omega
 rw [pk i aG] at bK
 obtain ⟨Ef,aI,bh⟩:=bY.get bd i v bk
 rw [bK] at aI
 simp only [Option.some.injEq] at aI
 rw [aI]
 exact bh
theorem NI {α:Type} (size:Nat):∀(pieces:List (List α)) (i j:Nat),(∀l ∈ pieces,l.length=size)→i<pieces.length→j<size→pieces.flatten[i * size+j]? =(pieces[i]?).bind (·[j]?)
 | [],i,j,_,aG,_=>by simp at aG
 | l::ls,i,j,aT,aG,bS=>by
   have aK:l.length=size:=aT l (by simp)
   cases i with
   | zero=>
     rw [Nat.zero_mul,Nat.zero_add,List.flatten_cons,List.getElem?_append_left (by omega)]
     simp
   | succ i=>
     rw [List.flatten_cons,List.getElem?_append_right (by rw [aK,Nat.add_mul];omega)]
     rw [show (i+1) * size+j-l.length=i * size+j from by rw [aK,Nat.add_mul];omega]
     rw [NI size ls i j (fun l aK=>aT l (by simp [aK])) (by simpa using aG) bS]
     simp
theorem FZ {α:Type} (size:Nat):∀(pieces:List (List α)),(∀l ∈ pieces,l.length=size)→pieces.flatten.length=pieces.length * size
 | [],_=>by simp
 | l::ls,aT=>by
   rw [List.flatten_cons,List.length_append,FZ size ls (fun l aK=>aT l (by simp [aK])),aT l (by simp),List.length_cons,Nat.add_mul]
   omega
theorem Qe {α:Type} (R:Nat→α→Prop):∀(len:Nat),(∀i,i<len→∃l,R i l)→∃ct:List α,ct.length=len∧∀i l,ct[i]? =some l→R i l
 | 0,_=>⟨[],rfl,fun i l q=>by simp at q⟩
 | m+1,h=>by
   obtain ⟨ct,aQ,aB⟩:=Qe R m (fun i aG=>h i (by omega))
   obtain ⟨l,ae⟩:=h m (by omega)
   refine ⟨ct++[l],by simp [aQ],fun i hL n0=>?_⟩
   by_cases aG:i<ct.length
   · rw [List.getElem?_append_left aG] at n0
     exact aB i hL n0
   · rw [List.getElem?_append_right (by omega)] at n0
     have bZ:i-ct.length=0:=by
      by_cases q:i-ct.length=0
      · exact q
      · rw [List.getElem?_eq_none (by simp;omega)] at n0
        cases n0
     rw [bZ] at n0
     simp at n0
     subst n0
     obtain rfl:i=m:=by omega
     exact ae
theorem Dc (cr:wL P=true) (bW:laidOutB P=true):∀(n:Nat) (t:TypeId) (cs:List Value) (x:DataW H × List MemPlace),t<P.types.size→DataW.trod enc P W base sp held n t cs=some x→sj P W n (hf x.1) t cs
 | 0,t,cs,x,_,h=>by simp [DataW.trod] at h
 | n+1,t,cs,x,aX,h=>by
   have B3:∀(cs:List Value),(∀aa ai,ai.length=cs.length→er P aa (n+1) (hf x.1) t ai)→sj P W (n+1) (hf x.1) t cs:=by
    intro cs H E h s
    refine ⟨E,h,cs.map fun _=>.bad,fun _ _ q=>q,Ext.refl h,s,?_,by simp,H _ _ (by simp)⟩
    clear H
    induction cs with
    | nil=>rfl
    | cons c cs bN=>exact ⟨c,cs,rfl,by simp [Rel],bN⟩
   cases hu:P.underlying t with
   | none=>
     refine B3 cs fun aa ai _=>?_
     simp only [er,hu]
   | some u=>
     cases u with
     | bool=>
       obtain ⟨b,rfl,_⟩:=DataW.trod_bool hu h
       intro E h s
       exact ⟨E,h,[.bool b],fun _ _ q=>q,Ext.refl h,s,⟨_,_,rfl,rfl,rfl⟩,rfl,by simp only [er,hu];exact ⟨b,rfl⟩⟩
     | int k=>
       obtain ⟨i,rfl,_,hw⟩:=DataW.trod_int hu h
       intro E h s
       exact ⟨E,h,[.int k i],fun _ _ q=>q,Ext.refl h,s,⟨_,_,rfl,rfl,rfl⟩,rfl,by simp only [er,hu];exact ⟨i,rfl,hw⟩⟩
     | string=>
       obtain ⟨b,rfl,rfl,_⟩:=DataW.trod_string hu h
       intro E h s
       exact ⟨E,h,[.str b.data.toList],fun _ _ q=>q,Ext.refl h,s,⟨_,_,rfl,rfl,rfl⟩,rfl,by simp only [er,hu,hf];exact ⟨_,rfl,Nat.le_refl _⟩⟩
     | struct bg=>
       obtain ⟨xs,hY,a7,rfl,aK,Ht,av⟩:=DataW.trod_struct hu h
       obtain rfl:n=hY:=by omega
       have Za:yt P bg.toList 0=some (P.cellsOf t):=by
        unfold wL at cr
        rw [List.all_eq_true] at cr
        have:=cr t (List.mem_range.2 aX)
        rw [hu] at this
        exact of_decide_eq_true this
       have hK:∀(i:Nat) (f:Field) (k:Nat),bg.toList[i]? =some f→(xs.map fun x=>hf x.1)[i]? =some k→sj P W n k f.type ((cs.drop f.offset).take (P.cellsOf f.type)):=by
        intro i f k aG an
        have pQ:f ∈ bg.toList:=List.mem_of_getElem? aG
        have sQ:bg[i]? =some f:=by simpa using aG
        have:=av i f sQ
        have Ol:i<xs.length:=by
         rw [Ht]
         exact (Array.getElem?_eq_some_iff.1 sQ).1
        rw [List.getElem?_eq_getElem Ol] at this
        rw [List.getElem?_map,List.getElem?_eq_getElem Ol,Option.map_some,Option.some.injEq] at an
        subst an
        exact Dc cr bW n _ _ _ ((kid_struct bW aX hu).1 f pQ) this
       intro E h s
       obtain ⟨_,g⟩:=Pc n bg.toList (xs.map fun x=>hf x.1) 0 _ cs Za aK (by simp [Ht]) hK
       obtain ⟨ba,aa,ai,bw,b3,a3,a4,a5,jR⟩:=g E h s
       refine ⟨ba,aa,ai,bw,b3,a3,by simpa using a4,by rw [a5,aK];omega,?_⟩
       simp only [er,hu]
       refine ⟨by omega,xs.map fun x=>hf x.1,by simp [Ht],?_,fun i f k pQ an=>⟨?_,by simpa using (jR i f k pQ an).2⟩⟩
       · simp only [hf,Fk,List.map_map]
         exact Nat.le_refl _
       · rw [List.getElem?_map,Option.map_eq_some_iff] at an
         obtain ⟨y,_,rfl⟩:=an
         exact sA _
     | slice e=>
       rcases DataW.trod_slice hu h with ⟨rfl,rfl⟩ | ⟨a,len,cap,elems,rest,hY,a7,rfl,rfl,ah,uj,_,Oc,GD,_,_⟩
       · intro E h s
         exact ⟨E,h,[.ay],fun _ _ q=>q,Ext.refl h,s,⟨_,_,rfl,rfl,rfl⟩,rfl,by simp only [er,hu];exact ⟨sA _,.inl trivial⟩⟩
       · obtain rfl:n=hY:=by omega
         by_cases aM:P.cellsOf e=0
         · refine B3 _ fun aa ai _=>?_
           simp only [er,hu]
           exact ⟨sA _,.inr (.inr (.inl aM))⟩
         by_cases gO:len=0
         · subst gO
           intro E h s
           refine ⟨E,h,[.ia .z 0 0 0],fun _ _ q=>q,Ext.refl h,s,⟨_,_,rfl,?_,rfl⟩,rfl,by simp only [er,hu];exact ⟨sA _,.inr (.inl ⟨_,_,_,_,rfl⟩)⟩⟩
           simp only [Rel]
           exact ⟨_,_,rfl⟩
         · -- its elements
           have vL:∀i,i<len→∃l,W.cells? base (a.add (i * P.cellsOf e)) (P.cellsOf e)=some l∧∀k:Nat,(elems.map fun x=>hf x.1)[i]? =some k→sj P W n k e l:=by
            intro i aG
            have:=GD i aG
            rw [List.getElem?_eq_getElem (by omega)] at this
            rw [Option.bind_eq_some_iff] at this
            obtain ⟨l,ae,ak⟩:=this
            refine ⟨l,ae,fun k an=>?_⟩
            rw [List.getElem?_map,List.getElem?_eq_getElem (by omega),Option.map_some,Option.some.injEq] at an
            subst an
            exact Dc cr bW n _ _ _ (kid_slice bW aX hu) ak
           obtain ⟨pieces,G5,kq⟩:∃pieces:List (List Value),pieces.length=len∧∀i (l:List Value),pieces[i]? =some l→W.cells? base (a.add (i * P.cellsOf e)) (P.cellsOf e)=some l∧∀k:Nat,(elems.map fun x=>hf x.1)[i]? =some k→sj P W n k e l:=by
            exact Qe (fun i l=>W.cells? base (a.add (i * P.cellsOf e)) (P.cellsOf e)=some l∧∀k:Nat,(elems.map fun x=>hf x.1)[i]? =some k→sj P W n k e l) len vL
           have qF:∀(i:Nat) (l:List Value) (k:Nat),pieces[i]? =some l→(elems.map fun x=>hf x.1)[i]? =some k→l.length=P.cellsOf e∧sj P W n k e l:=by
            intro i l k aG an
            obtain ⟨aQ,aB⟩:=kq i l aG
            exact ⟨(Cb aQ).1,aB k an⟩
           have OA:∀l ∈ pieces,l.length=P.cellsOf e:=by
            intro l aK
            obtain ⟨i,aG⟩:=List.getElem?_of_mem aK
            exact (Cb (kq i l aG).1).1
           intro E h s
           obtain ⟨ic,ae,us,bw,b3,a3,a4,a5,jR⟩:=Pd n (P.cellsOf e) e pieces (elems.map fun x=>hf x.1) (by simp [Oc,G5]) qF E h s
           have hK:=FZ (P.cellsOf e) pieces OA
           have OC:0<len * P.cellsOf e:=Nat.mul_pos (by omega) (by omega)
           have oW:∀i,i<pieces.flatten.length→W.cell? (a.add i)=pieces.flatten[i]? :=by
            intro q a2
            rw [hK] at a2
            have uk:q % P.cellsOf e<P.cellsOf e:=Nat.mod_lt _ (by omega)
            have hdiv:q / P.cellsOf e<pieces.length:=Nat.div_lt_of_lt_mul (by rw [Nat.mul_comm];exact a2)
            have YM:q / P.cellsOf e * P.cellsOf e+q % P.cellsOf e=q:=by rw [Nat.mul_comm];exact Nat.div_add_mod q _
            rw [←YM,NI (P.cellsOf e) pieces _ _ OA hdiv uk,List.getElem?_eq_getElem hdiv]
            obtain ⟨aQ,_⟩:=kq _ _ (List.getElem?_eq_getElem hdiv)
            have:=(Cb aQ).2 _ uk
            rw [Option.bind_some,←this]
            congr 1
            unfold Addr.add
            by_cases ff:q / P.cellsOf e * P.cellsOf e=0
            · rw [ff];simp
            · by_cases e9:q % P.cellsOf e=0
              · rw [e9];simp
              · have z3:¬(q / P.cellsOf e * P.cellsOf e+q % P.cellsOf e=0):=by omega
                rw [if_neg ff,if_neg e9,if_neg z3]
                simp [Nat.add_assoc]
           obtain ⟨eP,ak,b,b0,cG,fa,gZ,hp,iY,j4⟩:=RN a3 (cap:=cap) (by rw [hK,G5];exact OC) oW a4
           refine ⟨eP,ak,[.slice b 0 len cap],bw.trans b0,b3.trans cG,fa,⟨_,_,rfl,?_,rfl⟩,rfl,?_⟩
           · simp only [Rel]
             refine ⟨_,iY,uj,?_⟩
             obtain ⟨vg,ac',st⟩:=a
             simp only at hp
             subst hp
             rfl
           · simp only [er,hu]
             refine ⟨sA _,.inr (.inr (.inr ⟨b,len,cap,rfl,by omega,uj,gZ,us,j4,by rw [a5,G5],elems.map fun x=>hf x.1,by simp [Oc],?_,fun i k an=>⟨?_,er.ext cG _ _ _ _ (jR i k an)⟩⟩))⟩
             · simp only [hf,Fk,List.map_map]
               exact Nat.add_le_add_right (Nat.le_add_right _ _) 1
             · rw [List.getElem?_map,Option.map_eq_some_iff] at an
               obtain ⟨y,_,rfl⟩:=an
               exact sA _
     | pointer e=>
       rcases DataW.trod_pointer hu h with ⟨rfl,rfl⟩ | ⟨a,FJ,y,hY,a7,rfl,rfl,aD,bK⟩
       · intro E h s
         exact ⟨E,h,[.ch],fun _ _ q=>q,Ext.refl h,s,⟨_,_,rfl,rfl,rfl⟩,rfl,by simp only [er,hu];exact ⟨sA _,.inl trivial⟩⟩
       · obtain rfl:n=hY:=by omega
         by_cases aM:P.cellsOf e=0
         · refine B3 _ fun aa ai _=>?_
           simp only [er,hu]
           exact ⟨sA _,.inr (.inl aM)⟩
         · intro E h s
           obtain ⟨aQ,aB⟩:=Cb aD
           obtain ⟨ic,ae,us,bw,b3,a3,a4,a5,jR⟩:=Dc cr bW n _ _ _ (kid_pointer bW aX hu) bK E h s
           obtain ⟨eP,ak,b,b0,cG,fa,gZ,hp,iY,j4⟩:=RN a3 (cap:=0) (by omega) (fun i aG=>aB i (by omega)) a4
           refine ⟨eP,ak,[.ptr b 0],bw.trans b0,b3.trans cG,fa,⟨_,_,rfl,?_,rfl⟩,rfl,?_⟩
           · simp only [Rel]
             refine ⟨_,iY,?_⟩
             obtain ⟨vg,ac',st⟩:=a
             simp only at hp
             subst hp
             rfl
           · simp only [er,hu]
             exact ⟨sA _,.inr (.inr ⟨b,rfl,gZ,us,j4,by omega,_,Nat.le_refl _,er.ext cG _ _ _ _ jR⟩)⟩
     | map k e=>
       have hg:cs.length=1:=by
        unfold DataW.trod at h
        rw [hu] at h
        split at h<;>simp_all
       intro E h s
       refine ⟨E,h,[.bad],fun _ _ q=>q,Ext.refl h,s,?_,by simp [hg],by simp only [er,hu];exact .inr trivial⟩
       match cs,hg with
       | [c],_=>exact ⟨c,[],rfl,by simp [Rel],rfl⟩
     | interface ms=>
       have hg:cs.length=1:=by
        unfold DataW.trod at h
        rw [hu] at h
        split at h<;>simp_all
       intro E h s
       refine ⟨E,h,[.bad],fun _ _ q=>q,Ext.refl h,s,?_,by simp [hg],by simp only [er,hu];exact .inr trivial⟩
       match cs,hg with
       | [c],_=>exact ⟨c,[],rfl,by simp [Rel],rfl⟩
     | _=>
       refine B3 cs fun aa ai _=>?_
       simp only [er,hu]
def nP (P:Program) (h:aj) (n m:Nat) (t:TypeId) (v:V):Prop:=
 match P.underlying t with
 | some (.struct _) | some (.array _ _)=>∃ai,v=.agg ai∧er P h n m t ai
 | _=>er P h n m t [v]
theorem nP.ext {h aa:aj} (e:Ext h aa) {n m:Nat} {t:TypeId} {v:V} (H:nP P h n m t v):nP P aa n m t v:=by
 unfold nP at H ⊢
 split at H
 · obtain ⟨ai,aQ,aB⟩:=H
   exact ⟨ai,aQ,er.ext e _ _ _ _ aB⟩
 · obtain ⟨ai,aQ,aB⟩:=H
   exact ⟨ai,aQ,er.ext e _ _ _ _ aB⟩
 · exact er.ext e _ _ _ _ H
theorem ab3 (cr:wL P=true) (bW:laidOutB P=true) {r:Reach} {cX:Nat} {t:TypeId} {v:Value} {d:DataW H} {p:List MemPlace} (aX:t<P.types.size) (cb:Value.okWide P W r cX t v) (cc:DataW.Trod enc P W base sp held t v d p) {E:Env} {h:aj} (s:ck ⟨W,fun _=>none⟩ E h W):
 ∃n ba aa x,E.le ba∧Ext h aa∧ck ⟨W,fun _=>none⟩ ba aa W∧Rel ba x v∧nP P aa n (hf d) t x:=by
 obtain ⟨fuel,av⟩:=cc
 obtain ⟨ba,aa,ai,bw,b3,a3,a4,a5,jR⟩:=Dc cr bW _ _ _ _ aX av E h s
 have agg:(∃cs,v=.agg cs)→∃x,Rel ba x v∧x=.agg ai:=by
  rintro ⟨cs,rfl⟩
  exact ⟨.agg ai,by simp only [Rel];exact ⟨cs,rfl,a4⟩,rfl⟩
 have one:v.cells=#[v]→∃x,Rel ba x v∧ai=[x]:=by
  intro aD
  rw [aD] at a4 a5
  match ai,a4,a5 with
  | [x],⟨y,gE,aI,bh,cp⟩,_=>
    simp only [List.cons.injEq] at aI
    exact ⟨x,aI.1 ▸ bh,rfl⟩
 refine ⟨fuel,ba,aa,?_⟩
 unfold Value.okWide at cb
 cases hu:P.underlying t with
 | none=>
   rw [hu] at cb
   simp only [Cell.okWide,Cell.ok,hu] at cb
 | some u=>
   rw [hu] at cb
   unfold nP
   rw [hu]
   cases u<;>simp only at cb ⊢<;>first
    | (obtain ⟨cs,bk,_⟩:=cb
       obtain ⟨x,aQ,aB⟩:=agg ⟨cs,bk⟩
       exact ⟨x,bw,b3,a3,aQ,ai,aB,jR⟩)
    | (have aD:v.cells=#[v]:=by
        cases v<;>first
         | rfl
         | (simp only [Cell.okWide,Cell.ok,hu] at cb)
       obtain ⟨x,aQ,aB⟩:=one aD
       exact ⟨x,bw,b3,a3,aQ,aB ▸ jR⟩)
def oF (P:Program) (h:aj):Nat→List TypeId→List V→Prop
 | _,[],[]=>True
 | m,t::dt,v::ai=>∃k cf,k+cf≤m∧(∃n,nP P h n k t v)∧oF P h cf dt ai
 | _,_,_=>False
theorem oF.mono {h:aj}:∀{m oa:Nat} {dt:List TypeId} {ai:List V},m≤oa→oF P h m dt ai→oF P h oa dt ai
 | _,_,[],[],_,H=>by unfold oF;trivial
 | _,_,[],_::_,_,H=>H.elim
 | _,_,_::_,[],_,H=>H.elim
 | _,_,_::_,_::_,hm,⟨k,cf,an,H,jx⟩=>⟨k,cf,Nat.le_trans an hm,H,jx⟩
theorem Pb (cr:wL P=true) (bW:laidOutB P=true) {r:Reach} {cX:Nat}:∀{dt:List TypeId} {ai:List Value} {ds:List (DataW H)} {p:List MemPlace},(∀t ∈ dt,t<P.types.size)→(∀(j:Nat) t v,dt[j]? =some t→ai[j]? =some v→Value.okWide P W r cX t v)→
 DataW.TrodAll enc P W base sp held dt ai ds p→∀{E:Env} {h:aj},ck ⟨W,fun _=>none⟩ E h W→∃ba aa xs,E.le ba∧Ext h aa∧ck ⟨W,fun _=>none⟩ ba aa W∧bY ba xs ai∧oF P aa (nj ds) dt xs
 | [],[],ds,p,_,_,_,E,h,s=>⟨E,h,[],fun _ _ q=>q,Ext.refl h,s,rfl,by unfold oF;trivial⟩
 | [],_::_,ds,p,_,_,cc,E,h,s=>by cases ds<;>exact cc.elim
 | _::_,[],ds,p,_,_,cc,E,h,s=>by cases ds<;>exact cc.elim
 | _::_,_::_,[],p,_,_,cc,E,h,s=>cc.elim
 | t::dt,v::ai,d::ds,p,aJ,bk,⟨ca,b',ae,ak,_⟩,E,h,s=>by
   obtain ⟨n,ic,bF,x,bw,b3,a3,a4,a5⟩:=ab3 cr bW (aJ t (by simp)) (bk 0 t v rfl rfl) ae s
   obtain ⟨eP,bz,xs,b0,cG,fa,gZ,hp⟩:=Pb cr bW (fun t q=>aJ t (by simp [q])) (fun j t v aQ aB=>bk (j+1) t v (by simpa using aQ) (by simpa using aB)) ak a3
   exact ⟨eP,bz,x::xs,bw.trans b0,b3.trans cG,fa,⟨_,_,rfl,Rel.mono b0 _ _ a4,gZ⟩,hf d,nj ds,by simp only [nj];exact Nat.le_refl _,⟨n,a5.ext cG⟩,hp⟩
theorem Vv (cr:wL P=true) (bW:laidOutB P=true) {r:Reach} {cX:Nat} {f:FuncId} {dt:List TypeId} {ai:List Value} {ds:List (DataW H)} {p:List MemPlace} (hv:∀t ∈ dt,t<P.types.size) (bk:∀(j:Nat) t v,dt[j]? =some t→ai[j]? =some v→Value.okWide P W r cX t v)
 (cc:DataW.TrodAll enc P W base sp held dt ai ds p) (qw:Lay.ok W) (e0:kE P) (ah:∃fn,P.funcs[f]? =some fn∧fn.body.isSome=true) (aD:∀(h:aj) (xs:List V),oF P h (nj ds) dt xs→bB P f xs h fun y _=>y=.bool true):
 Calls P f ai.toArray W fun e aW=>e=.returned (.bool true)∧Below W.heap.size W aW:=by
 obtain ⟨E,h,xs,_,_,a3,a4,a5⟩:=Pb cr bW hv bk cc (Q9 W qw)
 obtain ⟨y,aa,nw,rfl⟩:=aD h xs a5
 refine (nw.calls e0 ah _ E W ai a4 a3).mono fun e aW q=>?_
 obtain ⟨ba,x,rfl,_,aB,a'⟩:=q
 simp only [Rel] at aB
 subst aB
 exact ⟨rfl,a'.frame⟩
end
end Go.Proofs.YtjbiefneffiogaaGreat.bA
namespace Go.Proofs.YtjbiefneffiogaaGreat.bA
variable [Lay]
open Go Go.RowKit
theorem collect {α:Type} (enc:α→List V) (size:Nat) (Q:α→Prop):∀(len:Nat) (us:List V),us.length=len * size→(∀i,i<len→∃a,(us.drop (i * size)).take size=enc a∧Q a)→
 ∃rl:List α,rl.length=len∧us=rl.flatMap enc∧∀a ∈ rl,Q a
 | 0,us,aK,_=>⟨[],rfl,by simpa using aK,fun a h=>by simp at h⟩
 | len+1,us,aK,h=>by
   obtain ⟨a,ae,ak⟩:=h 0 (by omega)
   rw [Nat.add_mul,Nat.one_mul] at aK
   obtain ⟨rl,bF,bz,cL⟩:=collect enc size Q len (us.drop size) (by rw [List.length_drop];omega) (fun i aG=>by
    obtain ⟨b,bQ,cB⟩:=h (i+1) (by omega)
    refine ⟨b,?_,cB⟩
    rw [List.drop_drop,←bQ,Nat.add_mul,Nat.one_mul,Nat.add_comm])
   refine ⟨a::rl,by simp [bF],?_,fun b ah=>?_⟩
   · rw [List.flatMap_cons,←bz,←ae,Nat.zero_mul,List.drop_zero,List.take_append_drop]
   · rcases List.mem_cons.1 ah with rfl | ah
     · exact ak
     · exact cL b ah
section
variable {P:Program} {h:aj} {n m:Nat} {t:TypeId}
theorem er.pos {ai:List V} (H:er P h n m t ai):∃k,n=k+1:=by
 cases n with
 | zero=>exact H.elim
 | succ m=>exact ⟨m,rfl⟩
theorem er.int {ai:List V} {k:IntKind} (H:er P h n m t ai) (hu:P.underlying t=some (.int k)):∃i,ai=[.int k i]∧(Lit.int k i).wf=true:=by
 obtain ⟨m,rfl⟩:=H.pos
 simpa only [er,hu] using H
theorem er.str {ai:List V} (H:er P h n m t ai) (hu:P.underlying t=some .string):∃s:List UInt8,ai=[.str s]∧s.length+1≤m:=by
 obtain ⟨_,rfl⟩:=H.pos
 simpa only [er,hu] using H
theorem er.struct {ai:List V} {bg:Array Field} (H:er P h n m t ai) (hu:P.underlying t=some (.struct bg)):∃hY,n=hY+1∧ai.length=P.cellsOf t∧∃ms:List Nat,ms.length=bg.toList.length∧ms.sum+1≤m∧
 ∀(i:Nat) (f:Field) (k:Nat),bg.toList[i]? =some f→ms[i]? =some k→1≤k∧er P h hY k f.type ((ai.drop f.offset).take (P.cellsOf f.type)):=by
 obtain ⟨hY,rfl⟩:=H.pos
 refine ⟨hY,rfl,?_⟩
 simpa only [er,hu] using H
def A1 (v:V):Prop:=∀b off l c,v=.slice b off l c→l≤c
def y7 (h:aj) (size:Nat) (v:V) (len m:Nat) (Q:Nat→List V→Prop):Prop:=
 v.one=true∧v.cells=[v]∧v.e3=true∧n_ v=some (.int .i64 len)∧A1 v∧∃(us:List V) (ms:List Nat),cg h size v len us∧ms.length=len∧ms.sum+1≤m∧∀(i k:Nat),ms[i]? =some k→1≤k∧Q k ((us.drop (i * size)).take size)
theorem er.slice {ai:List V} {e:TypeId} (H:er P h n m t ai) (hu:P.underlying t=some (.slice e)) (aM:P.cellsOf e≠0):∃hY v len,n=hY+1∧ai=[v]∧y7 h (P.cellsOf e) v len m (fun k=>er P h hY k e):=by
 obtain ⟨hY,rfl⟩:=H.pos
 simp only [er,hu] at H
 obtain ⟨al,H⟩:=H
 rcases H with rfl | ⟨b,i,j,k,rfl⟩ | q | ⟨b,len,cap,rfl,ae,ak,bq,us,bQ,cB,ms,fX,jJ,o4⟩
 · exact ⟨hY,_,0,rfl,rfl,rfl,rfl,rfl,rfl,(fun _ _ _ _ e=>by cases e),[],[],⟨by simp,rfl⟩,rfl,by simpa using al,fun i k aG=>by simp at aG⟩
 · exact ⟨hY,_,0,rfl,rfl,rfl,rfl,rfl,rfl,(fun _ _ _ _ e=>by cases e),[],[],⟨by simp,rfl⟩,rfl,by simpa using al,fun i k aG=>by simp at aG⟩
 · exact absurd q aM
 · exact ⟨hY,_,len,rfl,rfl,rfl,rfl,rfl,rfl,(fun _ _ _ _ e=>by cases e;exact ak),us,ms,⟨cB,rfl,bq,us,bQ,by omega,by simp⟩,fX,jJ,o4⟩
end
end Go.Proofs.YtjbiefneffiogaaGreat.bA
namespace Go.Proofs.YtjbiefneffiogaaGreat.bA
variable [Lay]
open Go Go.RowKit Go.ChangeShapes Go.WideShapes
section
variable {H:Type} {enc:TypeId × Value→H} {P:Program}
theorem J_ (bW:laidOutB P=true) {W y':World} (ah:Below W.heap.size W y'):∀{dt:List TypeId} {ai:List Value} {ds:List (DataW H)} {ct:List MemPlace},(dt.all fun t=>P.readableRec t&&decide (t<P.types.size))=true→
 DataW.TrodAll enc P W 0 (fun _=>true) true dt ai ds ct→DataW.TrodAll enc P y' 0 (fun b=>decide (b<W.heap.size)) true dt ai ds ct
 | [],[],[],_,_,h=>h
 | [],_::_,_,_,_,h=>by rename_i ds _;cases ds<;>exact h.elim
 | [],[],_::_,_,_,h=>h.elim
 | _::_,[],_,_,_,h=>by rename_i ds _;cases ds<;>exact h.elim
 | _::_,_::_,[],_,_,h=>h.elim
 | t::dt,v::ai,d::ds,ct,bd,h=>by
   have aX:=h.lt
   obtain ⟨p,q,ae,ak,rfl⟩:=h
   simp only [List.all_cons,Bool.and_eq_true,decide_eq_true_eq] at bd
   exact ⟨p,q,Below.trod bW bd.1.1 bd.1.2 ae ah (fun x az=>aX x (by simp [az])),J_ bW ah bd.2 ak,rfl⟩
theorem Rz {W:World} {base:Nat} {sp:Nat→Bool} {held:Bool}:∀{dt:List TypeId} {ai:List Value} {ds:List (DataW H)} {ct:List MemPlace},DataW.TrodAll enc P W base sp held dt ai ds ct→ds.length=dt.length
 | [],[],[],_,_=>rfl
 | [],_::_,ds,_,h=>by cases ds<;>exact h.elim
 | [],[],_::_,_,h=>h.elim
 | _::_,[],ds,_,h=>by cases ds<;>exact h.elim
 | _::_,_::_,[],_,h=>h.elim
 | t::dt,v::ai,d::ds,ct,h=>by
   obtain ⟨p,q,ae,ak,rfl⟩:=h
   simp [Rz ak]
theorem ab1 (cr:wL P=true) (bW:laidOutB P=true) {f:FuncId} {fn:Func} {s:ChangeSpec} {I4:TypeId} (hv:(fn.params.toList.all fun t=>P.readableRec t&&decide (t<P.types.size))=true) (OO:s.vars=[]) (YW:fn.resultTypes=#[I4]) (Zc:P.underlying I4=some .bool)
 (Hf:∀ds:List (DataW H),ds.length=fn.params.size→s.fn H (ds++[])={results:=[.lit (.bool true)],args:=ds})
 {B:Nat} (aD:∀(h:aj) (xs:List V),oF P h B fn.params.toList xs→bB P f xs h fun y _=>y=.bool true)
 {W:World} {base:Nat} {args:Array Value} {ds gs:List (DataW H)} {before:List MemPlace} (an:nj (ds++gs)≤B) (o0:Lay.ok W) (e0:kE P) (ah:∃fn,P.funcs[f]? =some fn∧fn.body.isSome=true)
 (qI:∀(j:Nat) t v,fn.params[j]? =some t→args[j]? =some v→Value.okWide P W .any base t v) (qw:DataW.Whole enc P fn.params.toList s.vars false W args.toList ds gs before):
 Calls P f args W fun e y'=>∃v,e=.returned v∧s.post enc P fn false true false false W args v y':=by
 have XE:=qw
 obtain ⟨p,q,dC,ub,rfl,qA,aim⟩:=qw
 rw [OO] at ub
 obtain ⟨rfl,rfl⟩:=trodVars_none ub
 have hlen:ds.length=fn.params.size:=by rw [Rz dC];simp
 have hw:=Vv cr bW (cX:=base) (r:=.any) (fun t aJ=>by
  have:=List.all_eq_true.1 hv t aJ
  simp only [Bool.and_eq_true,decide_eq_true_eq] at this
  exact this.2) (fun j t v ae ak=>qI j t v (by simpa using ae) (by simpa using ak)) dC o0 e0 ah (fun h xs q=>aD h xs (q.mono (by simpa using an)))
 simp only [Array.toArray_toList] at hw
 refine hw.mono fun e y' ⟨he,J'⟩=>?_
 subst he
 refine ⟨_,rfl,ds,[],p++[],[],p,[],XE,?_,?_,?_,J'.frame _,fun h=>by cases h⟩
 · rw [Hf ds hlen,YW]
   exact trodAll_mk1 (shut_bool Zc _)
 · rw [Hf ds hlen]
   exact J_ bW J' hv dC
 · rw [Hf ds hlen,OO]
   rfl
end
end Go.Proofs.YtjbiefneffiogaaGreat.bA
namespace Go.Proofs.YtjbiefneffiogaaGreat.bA
variable [Lay]
open Go Go.RowKit
theorem afW {P:Program} {h:aj} {B:Nat} {xs:List V} (aM:oF P h B [] xs):xs=[]:=by
 match xs,aM with
 | [],_=>rfl
theorem IT {P:Program} {h:aj} {B:Nat} {t:TypeId} {dt:List TypeId} {xs:List V} (aM:oF P h B (t::dt) xs):∃a rl k cf n,xs=a::rl∧k+cf≤B∧nP P h n k t a∧oF P h cf dt rl:=by
 match xs,aM with
 | a::rl,⟨k,cf,an,⟨n,al⟩,ae⟩=>exact ⟨a,rl,k,cf,n,rfl,an,al,ae⟩
section
variable {P:Program} {h:aj} {n m:Nat} {t:TypeId} {v:V}
theorem afX {k:IntKind} (aM:nP P h n m t v) (hu:P.underlying t=some (.int k)):∃i,v=.int k i∧(Lit.int k i).wf=true:=by
 unfold nP at aM
 rw [hu] at aM
 obtain ⟨s,e,q⟩:=er.int aM hu
 simp only [List.cons.injEq,and_true] at e
 exact ⟨s,e,q⟩
theorem afZ {bg:Array Field} (aM:nP P h n m t v) (hu:P.underlying t=some (.struct bg)):∃ai,v=.agg ai∧er P h n m t ai:=by
 unfold nP at aM
 rw [hu] at aM
 exact aM
theorem afY {e:TypeId} (aM:nP P h n m t v) (hu:P.underlying t=some (.slice e)) {c:Nat} (aD:P.cellsOf e=c) (xK:c≠0):∃hY len,y7 h c v len m (fun k=>er P h hY k e):=by
 unfold nP at aM
 rw [hu] at aM
 subst aD
 obtain ⟨hY,w,len,_,aI,g⟩:=er.slice aM hu xK
 simp only [List.cons.injEq,and_true] at aI
 subst aI
 exact ⟨hY,len,g⟩
end
end Go.Proofs.YtjbiefneffiogaaGreat.bA
namespace Go.Proofs.YtjbiefneffiogaaGreat.bA
variable [Lay]
open Go Go.RowKit Go.Maps Go.Sort Go.Shelf
def xZ (x:Int):List Int→List Int
 | []=>[x]
 | y::l=>bif Int.leB x y then x::y::l else y::xZ x l
def iK:List Int→List Int
 | []=>[]
 | x::l=>xZ x (iK l)
theorem HD (x:Int):∀l,(xZ x l).Perm (x::l)
 | []=>List.Perm.refl _
 | y::l=>by
   simp only [xZ]
   cases Int.leB x y with
   | true=>exact List.Perm.refl _
   | false=>exact ((HD x l).cons y).trans (List.Perm.swap x y l)
theorem r3:∀l,(iK l).Perm l
 | []=>List.Perm.refl _
 | x::l=>(HD x _).trans ((r3 l).cons x)
theorem OX (x:Int):∀l:List Int,l.Pairwise (·≤·)→(xZ x l).Pairwise (·≤·)
 | [],_=>List.pairwise_singleton _ _
 | y::l,h=>by
   simp only [xZ,o5]
   by_cases rL:x≤y
   · rw [decide_eq_true rL]
     refine List.pairwise_cons.2 ⟨fun z bI=>?_,h⟩
     rcases List.mem_cons.1 bI with rfl | bI
     · exact rL
     · exact Int.le_trans rL ((List.pairwise_cons.1 h).1 z bI)
   · rw [decide_eq_false rL]
     refine List.pairwise_cons.2 ⟨fun z bI=>?_,OX x l (List.pairwise_cons.1 h).2⟩
     rcases List.mem_cons.1 ((HD x l).mem_iff.1 bI) with rfl | bI
     · omega
     · exact (List.pairwise_cons.1 h).1 z bI
theorem D0:∀l,(iK l).Pairwise (·≤·)
 | []=>.nil
 | x::l=>OX x _ (D0 l)
theorem Rc {l m:List Int} (h:m.Perm l):m.mergeSort (fun x y=>decide (x≤y))=iK l:=by
 have aT:(m.mergeSort (fun x y=>decide (x≤y))).Perm (iK l):=((List.mergeSort_perm m _).trans h).trans (r3 l).symm
 have aM:(m.mergeSort (fun x y=>decide (x≤y))).Pairwise (·≤·):=by
  have:=List.pairwise_mergeSort (le:=fun x y:Int=>decide (x≤y)) (fun a b c ae ak=>by simp only [decide_eq_true_eq] at *;omega) (fun a b=>by simp only [Bool.or_eq_true,decide_eq_true_eq];omega) m
  exact this.imp (fun h=>by simpa using h)
 exact aT.eq_of_pairwise (fun a b _ _ ae ak=>Int.le_antisymm ae ak) aM (D0 l)
def n':List j1→Option (List Int)
 | []=>some []
 | m::ms=>match m.k with
   | .int .i64 n=>(match n' ms with
     | some l=>some (n::l)
     | none=>none)
   | _=>none
def x9 (x:Int):List Int→Bool
 | []=>false
 | y::l=>Int.jE x y||x9 x l
def uF:List Int→Bool
 | []=>true
 | x::l=>!x9 x l&&uF l
def tM (clock:Nat):Nat→List j1→Bool
 | _,[]=>true
 | cq,m::ms=>Nat.ble cq m.born&&Nat.blt m.born clock&&tM clock (m.born+1) ms
def uU:List Int→Bool
 | []=>true
 | x::l=>(Lit.int .i64 x).wf&&uU l
def cd (l:List Int):List V:=l.map (V.int .i64)
noncomputable def D1 (g:FuncId) (dQ:a6) (h:aj):bH:=
 match h.get dQ with
 | .cells n cs 0 _=>bif Nat.blt 0 n then (match T.get .bad (ao 0) cs with
   | .map b=>(match h.get b with
     | .mp es clock=>(match n' es with
       | some aF=>bif uF aF&&tM clock 0 es&&uU aF&&Nat.ble es.length 1000000 then (match iK aF with
          | []=>.val .ay h
          | x::l=>(match lg h (cd (x::l)) 1 false with
            | some aa=>.val (.ev (ao h.next) 0 (x::l).length 0) aa
            | none=>.fail)) else .fail
       | none=>.fail)
     | _=>.fail)
   | _=>.fail) else .fail
 | _=>.fail
noncomputable def A5 (g:FuncId):JL:=
 ⟨fun args h=>match args with
   | [.func f [.ptr dQ 0]]=>bif Nat.beq f g then D1 g dQ h else .fail
   | _=>.fail⟩
theorem O':∀{es:List j1} {aF:List Int},n' es=some aF→aF.length=es.length
 | [],aF,h=>by simp only [n',Option.some.injEq] at h;subst h;rfl
 | m::ms,aF,h=>by
   unfold n' at h
   split at h
   · cases a2:n' ms with
     | none=>rw [a2] at h;cases h
     | some l=>
       rw [a2] at h
       simp only [Option.some.injEq] at h
       subst h
       simp [O' a2]
   · cases h
theorem O_ {E:Env}:∀{es:List j1} {aF:List Int} {l:List MapEntry},n' es=some aF→kD E es l→l.map (·.key)=aF.map (Value.int .i64)∧l.map (·.born)=es.map (·.born)
 | [],aF,l,h,bd=>by
   simp only [n',Option.some.injEq] at h
   simp only [kD] at bd
   subst h bd
   exact ⟨rfl,rfl⟩
 | m::ms,aF,l,h,bd=>by
   simp only [kD] at bd
   obtain ⟨e,ahZ,rfl,ae,ak,aC,bq⟩:=bd
   unfold n' at h
   split at h
   · rename_i n an
     cases a2:n' ms with
     | none=>rw [a2] at h;cases h
     | some l=>
       rw [a2] at h
       simp only [Option.some.injEq] at h
       subst h
       obtain ⟨bF,bz⟩:=O_ a2 bq
       rw [an] at ae
       simp only [Rel] at ae
       simp only [List.map_cons,bF,bz,ae,aC,and_self]
   · cases h
theorem PE {x:Int}:∀{l:List Int},x9 x l=false→x ∉ l
 | [],_=>by simp
 | y::l,h=>by
   simp only [x9,Bool.or_eq_false_iff] at h
   have ae:¬x=y:=by
    intro q
    have:=h.1
    rw [oQ,decide_eq_false_iff_not] at this
    exact this q
   rw [List.mem_cons]
   rintro (q | q)
   · exact ae q
   · exact PE h.2 q
theorem PL:∀{l:List Int},uF l=true→l.Nodup
 | [],_=>List.nodup_nil
 | x::l,h=>by
   simp only [uF,Bool.and_eq_true,Bool.not_eq_true'] at h
   exact List.nodup_cons.2 ⟨PE h.1,PL h.2⟩
theorem Kf {clock:Nat}:∀{cq:Nat} {es:List j1},tM clock cq es=true→(∀n ∈ es.map (·.born),cq≤n∧n<clock)∧(es.map (·.born)).Nodup
 | cq,[],_=>⟨by simp,by simp⟩
 | cq,m::ms,h=>by
   simp only [tM,Bool.and_eq_true,Nat.ble_eq,Nat.blt_eq] at h
   obtain ⟨bF,bz⟩:=Kf h.2
   refine ⟨fun n a7=>?_,?_⟩
   · rw [List.map_cons] at a7
     rcases List.mem_cons.1 a7 with rfl | a7
     · exact h.1
     · have:=bF n a7
       omega
   · rw [List.map_cons]
     refine List.nodup_cons.2 ⟨fun q=>?_,bz⟩
     have:=bF _ q
     omega
theorem RS:∀{l:List Int},uU l=true→∀x ∈ l,(Lit.int .i64 x).wf=true
 | [],_,x,az=>by cases az
 | y::l,h,x,az=>by
   simp only [uU,Bool.and_eq_true] at h
   rcases List.mem_cons.1 az with rfl | az
   · exact h.1
   · exact RS h.2 x az
theorem ac2 {l:List Int} (h:l.Nodup):(l.map (Value.int .i64)).Nodup:=by
 induction l with
 | nil=>exact List.nodup_nil
 | cons x l bN=>
   obtain ⟨ae,ak⟩:=List.nodup_cons.1 h
   rw [List.map_cons]
   refine List.nodup_cons.2 ⟨fun q=>?_,bN ak⟩
   obtain ⟨y,bK,e⟩:=List.mem_map.1 q
   cases e
   exact ae bK
def JQ (P:Program) (f g:FuncId) (ku:TypeId):Prop:=
 ∀(uZ b Ax:Nat) (tA:DataW Unit) (R:Value→Option (DataW Unit × List MemPlace)) (w:World),uZ<w.heap.size→w.cell? ⟨uZ,0,none⟩=some (.map (some b))→w.ownsMap P ku R b Ax tA→Maps.size tA≤maxLen→Maps.size tA * 8≤140737488355328→
  Calls P f #[.func (.func g) #[] #[.pointer (some ⟨uZ,0,none⟩)]] w fun e aW=>∃(v:Value) (gY:List Int),e=.returned v∧gY.Perm (intKeys tA)∧
   aW.ownsRow w.heap.size ku 1 v gY.length ((gY.mergeSort (fun x y=>decide (x≤y))).map encZ)∧(v=.slice none 0 0↔gY=[])∧Below w.heap.size w aW
theorem HF (E:Env):∀l:List Int,bY E (cd l) (l.map encZ)
 | []=>rfl
 | x::l=>by
   simp only [cd,List.map_cons,bY]
   exact ⟨_,_,rfl,by simp only [Rel],HF E l⟩
theorem adQ {aZ:Fr} {E:Env} {h:aj} {w:World} (s:ck aZ E h w) {b:a6} {q:nO} (bD:(h.get b).own=true) (a2:E b=some q):q.bb<w.heap.size:=by
 have ah:=s.at a2
 cases bp:h.get b with
 | dead=>rw [bp] at bD;cases bD
 | view n cs=>rw [bp] at bD;cases bD
 | cells n cs c3 st=>rw [bp] at ah;obtain ⟨_,hk,c,el,cF,e,_,c4,_⟩:=ah;rw [e] at a2;cases a2;exact (Array.getElem?_eq_some_iff.1 c4).1
 | iter st pos=>rw [bp] at ah;obtain ⟨hk,e,_,_,c4⟩:=ah;rw [e] at a2;cases a2;exact (Array.getElem?_eq_some_iff.1 c4).1
 | mp es clock=>rw [bp] at ah;obtain ⟨hk,a,e,_,c4,_⟩:=ah;rw [e] at a2;cases a2;exact (Array.getElem?_eq_some_iff.1 c4).1
theorem Rh {P:Program} {f g:FuncId} {ku:TypeId} (sS:P.underlying ku=some (.int .i64)) (C:JQ P f g ku) {args:List V} {h aa:aj} {v:V} (he:(A5 g).run args h=.val v aa)
 (aZ:Fr) (E:Env) (w:World) (xs:List Value) (az:bY E args xs) (s:ck aZ E h w):
 Calls P f xs.toArray w fun e aW=>∃ba x,e=.returned x∧E.le ba∧Rel ba v x∧ck aZ ba aa aW:=by
 match args,he,az with
 | [.func zz [.ptr dQ 0]],he,az=>
   simp only [A5] at he
   cases Gz:Nat.beq zz g with
   | false=>rw [Gz] at he;cases he
   | true=>
     rw [Gz] at he
     simp only [cond_true] at he
     have X7:zz=g:=Nat.eq_of_beq_eq_true Gz
     subst X7
     simp only [bY] at az
     obtain ⟨y,_,rfl,bK,rfl⟩:=az
     simp only [Rel] at bK
     obtain ⟨a,rfl,q,_,bU,a2,rfl⟩:=bK
     obtain ⟨p,aT,rfl⟩:=a2
     have Gj:a=#[.pointer (some ⟨p.bb,p.base+0,none⟩)]:=by
      rw [←Array.toList_inj,bU]
     subst Gj
     unfold D1 at he
     split at he
     · rename_i n cs st kH
       have xJ:=s.base dQ p n cs st kH aT
       have pO:=s.at aT
       rw [kH] at pO
       obtain ⟨_,nD,c,el,cF,aI,_,CN,_,_,_,Oa⟩:=pO
       rw [aT] at aI;cases aI
       cases a7:Nat.blt 0 n with
       | false=>rw [a7] at he;cases he
       | true=>
         rw [a7] at he
         simp only [cond_true] at he
         rw [Nat.blt_eq] at a7
         split at he
         · rename_i b vI
           have xK:0<c.size:=by have:=Oa.1;omega
           have k_:=Oa.2 0 c[0] a7 (by rw [xJ];exact Array.getElem?_eq_getElem xK)
           rw [vI] at k_
           simp only [Rel] at k_
           obtain ⟨eN,nB,oW⟩:=k_
           split at he
           · rename_i es clock sN
             have kK:=s.at nB
             rw [sN] at kK
             obtain ⟨aiN,am,bh,_,Yv,z6⟩:=kK
             rw [nB] at bh;cases bh
             cases ui:n' es with
             | none=>rw [ui] at he;cases he
             | some aF=>
               rw [ui] at he
               simp only at he
               cases me:(uF aF&&tM clock 0 es&&uU aF&&Nat.ble es.length 1000000) with
               | false=>rw [me] at he;cases he
               | true=>
                 rw [me] at he
                 simp only [cond_true] at he
                 simp only [Bool.and_eq_true,Nat.ble_eq] at me
                 obtain ⟨⟨⟨bF,bz⟩,cL⟩,gy⟩:=me
                 obtain ⟨bQ,cB⟩:=O_ ui z6
                 have GO:=O' ui
                 have N5:am.size=aF.length:=by
                  have:=congrArg List.length bQ
                  simpa using this
                 obtain ⟨b0,cG⟩:=Kf bz
                 have CS:maxLen=9223372036854775807:=by decide
                 have Y8:MapKept.Stamped am clock:=by
                  refine ⟨fun x az=>?_,by rw [cB];exact cG,by rw [bQ];exact ac2 (PL bF)⟩
                  have:x.born ∈ es.map (·.born):=by rw [←cB];exact List.mem_map_of_mem az
                  exact (b0 _ this).2
                 have Yj:∀x ∈ am.toList,∃n ∈ aF,x.key=.int .i64 n:=by
                  intro x az
                  have:x.key ∈ am.toList.map (·.key):=List.mem_map_of_mem az
                  rw [bQ] at this
                  obtain ⟨n,a7,e⟩:=List.mem_map.1 this
                  exact ⟨n,a7,e.symm⟩
                 have fD:∀x ∈ am.toList,∃n,x.key=.int .i64 n∧WideElems.rd P ku (fun _=>some ((.nil:DataW Unit),[])) x=some (.int .i64 n,.nil):=by
                  intro x az
                  obtain ⟨n,a7,e⟩:=Yj x az
                  refine ⟨n,e,?_⟩
                  unfold WideElems.rd
                  rw [e,Maps.keyOf_int_mk sS (RS cL n a7)]
                  rfl
                 have zR:WideElems.Fit P ku (fun _=>some ((.nil:DataW Unit),[])) am clock:=⟨by rw [N5,GO,CS];omega,Y8,fun x az=>by obtain ⟨n,_,e⟩:=fD x az;exact ⟨_,e⟩⟩
                 have hE:w.ownsMap P ku (fun _=>some ((.nil:DataW Unit),[])) eN.bb am.size (.map ((am.toList.map (WideElems.rg P ku (fun _=>some ((.nil:DataW Unit),[])))).foldr DataW.insert [])):=⟨am,clock,Yv,zR,Nat.le_refl _,rfl⟩
                 have Yk:(am.toList.map (WideElems.rg P ku (fun _=>some ((.nil:DataW Unit),[])))).map (fun p=>intOf p.1)=aF:=by
                  have bI:∀(l:List MapEntry) (tx:List Int),(∀x ∈ l,∃n,x.key=.int .i64 n∧WideElems.rd P ku (fun _=>some ((.nil:DataW Unit),[])) x=some (.int .i64 n,.nil))→l.map (·.key)=tx.map (Value.int .i64)→(l.map (WideElems.rg P ku (fun _=>some ((.nil:DataW Unit),[])))).map (fun p=>intOf p.1)=tx:=by
                   intro l
                   induction l with
                   | nil=>
                     intro tx _ e
                     cases tx with
                     | nil=>rfl
                     | cons z tx=>simp at e
                   | cons x l bN=>
                     intro tx js e
                     cases tx with
                     | nil=>simp at e
                     | cons z tx=>
                       simp only [List.map_cons,List.cons.injEq] at e
                       obtain ⟨n,aI,bh⟩:=js x (List.mem_cons_self ..)
                       have ZD:z=n:=by
                        have:=e.1.symm.trans aI
                        injection this
                       rw [List.map_cons,List.map_cons,bN tx (fun y bK=>js y (List.mem_cons_of_mem _ bK)) e.2]
                       unfold WideElems.rg
                       rw [bh,ZD]
                       rfl
                  exact bI am.toList aF fD bQ
                 have CF:(intKeys (.map ((am.toList.map (WideElems.rg P ku (fun _=>some ((.nil:DataW Unit),[])))).foldr DataW.insert []):DataW Unit)).Perm aF:=by
                  have:=(WideShapes.sorted_perm (am.toList.map (WideElems.rg P ku (fun _=>some ((.nil:DataW Unit),[]))))).map (fun p=>intOf p.1)
                  rw [Yk] at this
                  exact this
                 have gd:Maps.size (.map ((am.toList.map (WideElems.rg P ku (fun _=>some ((.nil:DataW Unit),[])))).foldr DataW.insert []):DataW Unit)=aF.length:=by
                  rw [Maps.size_eq,length_sorted,List.length_map,Array.length_toList,N5]
                 have aX:=(Array.getElem?_eq_some_iff.1 CN).1
                 have XM:w.cell? ⟨p.bb,0,none⟩=some (.map (some eN.bb)):=by
                  simp only [World.cell?,CN]
                  rw [←oW]
                  exact Array.getElem?_eq_getElem xK
                 have call:=C p.bb eN.bb am.size _ _ w aX XM hE (by rw [gd,GO,CS];omega) (by rw [gd,GO];omega)
                 rw [show p.base+0=0 from by rw [xJ]]
                 refine call.mono fun e aW q=>?_
                 obtain ⟨v0,gY,rfl,aQ,aB,a',cn⟩:=q
                 have rH:gY.Perm aF:=aQ.trans CF
                 rw [Rc rH] at aB
                 have Ae:gY.length=(iK aF).length:=by rw [rH.length_eq,(r3 aF).length_eq]
                 split at he
                 · rename_i YY
                   have:gY=[]:=by
                    rw [YY] at Ae
                    exact List.eq_nil_of_length_eq_zero Ae
                   cases he
                   rw [a'.2 this]
                   exact ⟨E,_,rfl,fun _ _ q=>q,by simp only [Rel],s.below cn⟩
                 · rename_i x l CW
                   rw [CW] at Ae aB
                   cases vC:lg h (cd (x::l)) 1 false with
                   | none=>rw [vC] at he;cases he
                   | some ae=>
                     rw [vC] at he
                     simp only [bH.val.injEq] at he
                     obtain ⟨rfl,rfl⟩:=he
                     obtain ⟨aU,bm⟩:=aB
                     rcases bm with ⟨_,bm⟩ | ⟨hD,cap,cur,rfl,bm,cj,c0,e7,mu,fr⟩
                     · rw [Ae] at bm;cases bm
                     · unfold lg at vC
                       obtain ⟨aD,vC⟩:=g0 vC
                       simp only [Bool.and_eq_true,Nat.ble_eq] at aD
                       simp only [Option.some.injEq] at vC
                       subst vC
                       have fW:E.put (ao h.next) ⟨hD,0,cap⟩ (ao h.next)=some ⟨hD,0,cap⟩:=by unfold Env.put;rw [if_pos rfl]
                       have hle:E.le (E.put (ao h.next) ⟨hD,0,cap⟩):=Env.s7 (s.fresh h.next (Nat.le_refl _))
                       refine ⟨_,_,rfl,hle,?_,s.add (p:=⟨hD,0,cap⟩) cn.size (fun j bS _=>cn.block j bS) (Nat.le_trans s.frame.size bm) (fun b1 hk xS pW mc=>?_) cn.os cn.tape cn.output (fun _ _ _ e=>by injection e with _ _ cp;omega) ?_⟩
                       · simp only [Rel]
                         exact ⟨_,fW,by simp only [Nat.zero_add];omega,by simp only [Nat.add_zero,Nat.sub_zero,Ae]⟩
                       · have:=adQ s xS pW
                         simp only at mc
                         omega
                       · have hg:=Cx (bY.mono hle _ _ (HF E (x::l))) aD.1 (cur.toList.drop (gY.length * 1)).toArray
                         have XQ:((x::l).map encZ).toArray++(cur.toList.drop (gY.length * 1)).toArray=cur:=by
                          rw [←fr,←Array.toList_inj]
                          simp
                         rw [XQ] at hg
                         exact ⟨aD.1,⟨hD,0,cap⟩,cur,ku,(0,0),fW,Nat.le_trans s.frame.size bm,cj,.inr (Nat.le_refl _),fun _=>rfl,fun _=>by simp only;omega,hg⟩
           · cases he
         · cases he
     · cases he
end Go.Proofs.YtjbiefneffiogaaGreat.bA
