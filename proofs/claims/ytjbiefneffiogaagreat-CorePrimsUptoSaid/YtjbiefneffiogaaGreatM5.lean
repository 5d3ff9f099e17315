/- The abstract machine and its walks (a verified interpreter of the model's code: plain definitions and lemmas, no condition). Printed by a program from longer texts: names made short. -/
import Derived.Test.YtjbiefneffiogaaGreatM3
import Derived.ChangeArms
import Derived.DataReads
import Derived.ChangeBears
import Derived.Carry
import Derived.OpenShut
import Derived.ChangeSame
import Derived.Handed
import Derived.HandedShaped
import Derived.Test.YtjbiefneffiogaaGreatM1
import Derived.Shelf.SlIterI.Sorted
import Derived.Shelf.SlIterI.Nil
import Derived.WideShapes
set_option linter.unusedSectionVars false
set_option linter.unusedSimpArgs false
set_option linter.unusedVariables false
namespace Go.Proofs.YtjbiefneffiogaaGreat.bs
variable [Lay]
open Go Go.RowKit
theorem cf.below {aR:Fr} {E:Env} {h:ai} {w aT:World} (s:cf aR E h w) (af:Below w.heap.size w aT):cf aR E h aT:=by
 have gG:aR.w.heap.size≤w.heap.size:=s.frame.size
 have hb:∀(k:Nat) (o:Obj),w.heap[k]? =some o→aT.heap[k]? =some o:=by
  intro k o al
  rw [af.block k,al]
  by_cases a7:k<w.heap.size
  · exact a7
  · rw [Array.getElem?_eq_none (by omega)] at al
    cases al
 refine ⟨fun b aQ=>?_,s.q2,s.inj,s.fresh,s.frame.trans (af.mono gG),s.laid,s.base⟩
 have:=s.bb b aQ
 cases al:h.get b<;>rw [al] at this<;>simp only [jC] at this ⊢
 · obtain ⟨aP,p,c,el,cy,aA,a2,b',da⟩:=this
   exact ⟨aP,p,c,el,cy,aA,a2,hb _ _ b',da⟩
 · obtain ⟨aP,p,c,el,cy,aA,a2,b',da⟩:=this
   exact ⟨aP,p,c,el,cy,aA,a2,hb _ _ b',da⟩
 · obtain ⟨p,aP,aA,a2,b'⟩:=this
   exact ⟨p,aP,aA,a2,hb _ _ b'⟩
 · obtain ⟨p,a,aP,aA,a2,b'⟩:=this
   exact ⟨p,a,aP,aA,hb _ _ a2,b'⟩
theorem Vy {P:Program} {f:FuncId} {v:V} (bh:∀E x,x=.bool true→Rel E v x) (vP:∃fn,P.funcs[f]? =some fn∧fn.body.isSome=true) (H:∀w,Lay.ok w→Calls P f #[] w fun e aT=>e=.returned (.bool true)∧Below w.heap.size w aT) (h:ai):
 lr P f [] h v h:=by
 refine .inl ⟨vP,fun aR E w xs ax s=>?_⟩
 simp only [bW] at ax
 subst ax
 refine (H w (Lay.hb s.laid s.frame)).mono fun e aT q=>?_
 obtain ⟨rfl,af⟩:=q
 exact ⟨E,_,rfl,fun _ _ q=>q,bh E _ rfl,s.below af⟩
noncomputable def sl (E:Env) (h:ai) (p:nI):Env:=fun b=>if b=ao h.next then some p else E b
theorem Rt (E:Env) (h:ai) (p:nI):sl E h p (ao h.next)=some p:=if_pos rfl
theorem Ja {aR:Fr} {E:Env} {h:ai} {w:World} (s:cf aR E h w) (p:nI):E.le (sl E h p):=fun b q aZ=>by
 unfold sl
 rw [if_neg (fun e=>by rw [e,s.fresh _ (Nat.le_refl _)] at aZ;cases aZ)]
 exact aZ
theorem afA {W:World} {E:Env} {h:ai} (s:cf ⟨W,fun _=>none⟩ E h W) (p:nI) (k:cL) (bA:k.own=false) (al:jC W.heap.size (sl E h p) W (ao h.next) k):
 cf ⟨W,fun _=>none⟩ (sl E h p) (h.new k) W:=by
 refine ⟨fun b _=>?_,fun _ _ h=>(by cases h),fun b b2 q hg ad ak aI bo aZ=>?_,fun i aH=>?_,s.frame,s.laid,fun b q n cs st ad aI=>by
  rw [eG] at ad
  by_cases cg:ao h.next=b
  · rw [if_pos cg] at ad;rw [ad] at bA;cases bA
  · rw [if_neg cg] at ad
    unfold sl at aI
    rw [if_neg (fun e=>cg e.symm)] at aI
    exact s.base _ _ _ _ _ ad aI⟩
 · rw [eG]
   by_cases e:ao h.next=b
   · subst e
     rw [if_pos rfl]
     exact al
   · rw [if_neg e]
     exact (s.bb b rfl).mono (Ja s p)
 · rw [eG] at ad ak
   by_cases cg:ao h.next=b
   · rw [if_pos cg,bA] at ad;cases ad
   · by_cases dk:ao h.next=b2
     · rw [if_pos dk,bA] at ak;cases ak
     · rw [if_neg cg] at ad
       rw [if_neg dk] at ak
       unfold sl at aI bo
       rw [if_neg (fun e=>cg e.symm)] at aI
       rw [if_neg (fun e=>dk e.symm)] at bo
       exact s.inj b b2 q hg ad ak aI bo aZ
 · rw [cY] at aH
   unfold sl
   rw [if_neg (fun e=>by have:=n' e;omega)]
   exact s.fresh i (by omega)
theorem afB {W:World} {E:Env} {h:ai} (s:cf ⟨W,fun _=>none⟩ E h W) {k base cap:Nat} {c:Array Value} {el:TypeId} {cy:Nat × Nat} (al:W.heap[k]? =some (.cells c el cy)) {ah:List V}
 (aC:base+ah.length≤c.size) (ba:∀i v y,ah[i]? =some v→c[base+i]? =some y→Rel E v y):
 cf ⟨W,fun _=>none⟩ (sl E h ⟨k,base,cap⟩) (h.new (.ro ah)) W:=by
 refine afA s _ _ rfl ?_
 have a7:k<W.heap.size:=by
  by_cases a7:k<W.heap.size
  · exact a7
  · rw [Array.getElem?_eq_none (by omega)] at al
    cases al
 refine ⟨trivial,⟨k,base,cap⟩,c,el,cy,Rt _ _ _,a7,al,aC,fun i y aH bG=>?_⟩
 have:T.get .bad (ao i) (g1 .e 0 ah)=ah[i]:=by
  have:=CP ah 0 i .e
  rw [Nat.zero_add] at this
  rw [this,if_pos aH,List.getElem?_eq_getElem aH]
  rfl
 rw [this]
 exact Rel.mono (Ja s _) _ _ (ba i _ y (List.getElem?_eq_getElem aH) bG)
section
variable (P:Program)
def yK:List Field→Nat→Option Nat
 | [],o=>some o
 | f::bg,o=>if f.offset=o then yK bg (o+P.cellsOf f.type) else none
def wZ:Bool:=(List.range P.types.size).all fun t=>match P.underlying t with
 | some (.struct bg)=>decide (yK P bg.toList 0=some (P.cellsOf t))
 | _=>true
def fv (h:ai):Nat→Nat→TypeId→List V→Prop
 | 0,_,_,_=>False
 | n+1,m,t,ah=>match P.underlying t with
   | some .bool=>∃b,ah=[.bool b]
   | some (.int k)=>∃i,ah=[.int k i]∧(Lit.int k i).wf=true
   | some .string=>∃s:List UInt8,ah=[.str s]∧s.length+1≤m
   | some (.slice e)=>1≤m∧(ah=[.aw]∨(∃b i j k,ah=[.h4 b i j k])∨P.cellsOf e=0∨
      ∃b len cap,ah=[.slice b 0 len cap]∧0<len∧len≤cap∧Old h b∧∃us,Rd h b us∧us.length=len * P.cellsOf e∧∃ms:List Nat,ms.length=len∧ms.sum+1≤m∧
       ∀(i k:Nat),ms[i]? =some k→1≤k∧fv h n k e ((us.drop (i * P.cellsOf e)).take (P.cellsOf e)))
   | some (.struct bg)=>ah.length=P.cellsOf t∧∃ms:List Nat,ms.length=bg.toList.length∧ms.sum+1≤m∧∀(i:Nat) (f:Field) (k:Nat),bg.toList[i]? =some f→ms[i]? =some k→1≤k∧fv h n k f.type ((ah.drop f.offset).take (P.cellsOf f.type))
   | some (.pointer e)=>1≤m∧(ah=[.cc]∨P.cellsOf e=0∨∃b,ah=[.ptr b 0]∧Old h b∧∃us,Rd h b us∧us.length=P.cellsOf e∧∃k,k+1≤m∧fv h n k e us)
   | some (.map _ _)=>ah=[.lN]∨ah=[.bad]
   | some (.interface _)=>ah=[.nilIface]∨ah=[.bad]
   | _=>True
end
theorem fv.ext {P:Program} {h J:ai} (e:Ext h J):∀(n m:Nat) (t:TypeId) (ah:List V),fv P h n m t ah→fv P J n m t ah
 | 0,_,_,_,H=>H
 | n+1,m,t,ah,H=>by
   unfold fv at H ⊢
   split at H<;>try exact H
   · refine ⟨H.1,?_⟩
     rcases H.2 with H | H | H | ⟨b,len,cap,ad,ak,aB,ej,us,bS,cF,ms,gS,kL,qS⟩
     · exact .inl H
     · exact .inr (.inl H)
     · exact .inr (.inr (.inl H))
     · exact .inr (.inr (.inr ⟨b,len,cap,ad,ak,aB,e.b5 ej,us,e.rd ej bS,cF,ms,gS,kL,fun i k al=>⟨(qS i k al).1,fv.ext e n _ _ _ (qS i k al).2⟩⟩))
   · obtain ⟨ad,ms,ak,aB,bw⟩:=H
     exact ⟨ad,ms,ak,aB,fun i f k ar al=>⟨(bw i f k ar al).1,fv.ext e n _ _ _ (bw i f k ar al).2⟩⟩
   · refine ⟨H.1,?_⟩
     rcases H.2 with H | H | ⟨b,ad,ej,us,bS,cF,k,gS,kL⟩
     · exact .inl H
     · exact .inr (.inl H)
     · exact .inr (.inr ⟨b,ad,e.b5 ej,us,e.rd ej bS,cF,k,gS,fv.ext e n _ _ _ kL⟩)
mutual
def g9 {H:Type}:DataW H→Nat
 | .lit (.string bytes)=>bytes.length+1
 | .lit _=>1
 | .nil=>1
 | .ptr d=>g9 d+1
 | .slice elems spare=>m_ elems+m_ spare+1
 | .agg parts=>m_ parts+1
 | .iface _ d=>g9 d+1
 | .map entries=>Cm entries+1
 | .held _=>1
def m_ {H:Type}:List (DataW H)→Nat
 | []=>0
 | d::r=>g9 d+m_ r
def Cm {H:Type}:List (Lit × DataW H)→Nat
 | []=>0
 | x::r=>FB x+Cm r
def FB {H:Type}:Lit × DataW H→Nat
 | (.string bytes,d)=>bytes.length+g9 d+1
 | (_,d)=>g9 d+1
end
theorem sG {H:Type} (d:DataW H):1≤g9 d:=by
 cases d with
 | lit l=>cases l<;>simp [g9]
 | _=>simp [g9]
theorem FA {H:Type}:∀l:List (DataW H),m_ l=(l.map g9).sum
 | []=>by simp [m_]
 | d::r=>by simp only [m_,List.map_cons,List.sum_cons,FA r]
theorem Cp {w:World} {base:Nat} {a:Addr} {n:Nat} {l:List Value} (h:w.cells? base a n=some l):l.length=n∧∀i,i<n→w.cell? (a.add i)=l[i]? :=by
 unfold World.cells? at h
 split at h
 · exact ⟨by simpa using mapM_some_length h,fun i aH=>mapM_some_get h i i (by simp [aH])⟩
 · cases h
theorem Qr {E a_:Env} (he:E.le a_) {ah:List V} {l:List Value} (H:bW E ah l):bW a_ ah l:=bW.mono he ah l H
section
variable {H:Type} {enc:TypeId × Value→H} {P:Program} {W:World} {base:Nat} {sp:Nat→Bool} {held:Bool}
def sv (P:Program) (W:World) (n m:Nat) (t:TypeId) (cs:List Value):Prop:=
 ∀(E:Env) (h:ai),cf ⟨W,fun _=>none⟩ E h W→∃a_ J ah,E.le a_∧Ext h J∧cf ⟨W,fun _=>none⟩ a_ J W∧bW a_ ah cs∧ah.length=cs.length∧fv P J n m t ah
theorem O2 (n size:Nat) (e:TypeId):∀(pieces:List (List Value)) (ms:List Nat),ms.length=pieces.length→(∀(i:Nat) (l:List Value) (k:Nat),pieces[i]? =some l→ms[i]? =some k→l.length=size∧sv P W n k e l)→
 ∀(E:Env) (h:ai),cf ⟨W,fun _=>none⟩ E h W→∃a_ J us,E.le a_∧Ext h J∧cf ⟨W,fun _=>none⟩ a_ J W∧bW a_ us pieces.flatten∧us.length=pieces.length * size∧
  ∀(i k:Nat),ms[i]? =some k→fv P J n k e ((us.drop (i * size)).take size)
 | [],[],_,_,E,h,s=>⟨E,h,[],fun _ _ q=>q,Ext.refl h,s,rfl,by simp,fun i k aH=>by simp at aH⟩
 | [],_::_,aL,_,_,_,_=>by simp at aL
 | _::_,[],aL,_,_,_,_=>by simp at aL
 | l::ls,m::ms,vV,aQ,E,h,s=>by
   obtain ⟨aL,H⟩:=aQ 0 l m rfl rfl
   obtain ⟨h6,ad,ah,bt,b1,a3,a4,a5,jH⟩:=H E h s
   obtain ⟨ff,ak,us,bX,cD,e5,g8,hE,jr⟩:=O2 n size e ls ms (by simpa using vV) (fun i l k aP aA=>aQ (i+1) l k (by simpa using aP) (by simpa using aA)) h6 ad a3
   refine ⟨ff,ak,ah++us,bt.trans bX,b1.trans cD,e5,?_,?_,?_⟩
   · rw [List.flatten_cons]
     exact bW.append (Qr bX a4) g8
   · rw [List.length_append,hE,a5,aL,List.length_cons,Nat.add_mul]
     omega
   · intro i k aH
     cases i with
     | zero=>
       rw [Nat.zero_mul,List.drop_zero,List.take_left' (by rw [a5,aL])]
       simp only [List.getElem?_cons_zero,Option.some.injEq] at aH
       subst aH
       exact fv.ext cD _ _ _ _ jH
     | succ i=>
       rw [Nat.add_mul,Nat.one_mul,Nat.add_comm,←List.drop_drop,List.drop_left' (by rw [a5,aL])]
       exact jr i k (by simpa using aH)
theorem O1 (n:Nat):∀(bg:List Field) (ms:List Nat) (o dV:Nat) (cs:List Value),yK P bg o=some dV→cs.length=dV→ms.length=bg.length→(∀(i:Nat) (f:Field) (k:Nat),bg[i]? =some f→ms[i]? =some k→sv P W n k f.type ((cs.drop f.offset).take (P.cellsOf f.type)))→
 o≤dV∧∀(E:Env) (h:ai),cf ⟨W,fun _=>none⟩ E h W→∃a_ J ah,E.le a_∧Ext h J∧cf ⟨W,fun _=>none⟩ a_ J W∧bW a_ ah (cs.drop o)∧ah.length=dV-o∧
  ∀(i:Nat) (f:Field) (k:Nat),bg[i]? =some f→ms[i]? =some k→o≤f.offset∧fv P J n k f.type ((ah.drop (f.offset-o)).take (P.cellsOf f.type))
 | [],_::_,_,_,_,_,_,vV,_=>by simp at vV
 | _::_,[],_,_,_,_,_,vV,_=>by simp at vV
 | [],[],o,dV,cs,aF,aL,_,_=>by
   simp only [yK,Option.some.injEq] at aF
   subst aF
   refine ⟨Nat.le_refl _,fun E h s=>⟨E,h,[],fun _ _ q=>q,Ext.refl h,s,?_,by simp,fun i f k ar=>by simp at ar⟩⟩
   rw [List.drop_eq_nil_of_le (by omega)]
   rfl
 | f::bg,m::ms,o,dV,cs,aF,aL,vV,aQ=>by
   simp only [yK] at aF
   by_cases ar:f.offset=o
   · rw [if_pos ar] at aF
     obtain ⟨bH,bM⟩:=O1 n bg ms (o+P.cellsOf f.type) dV cs aF aL (by simpa using vV) (fun i f k aP aA=>aQ (i+1) f k (by simpa using aP) (by simpa using aA))
     refine ⟨by omega,fun E h s=>?_⟩
     have Ym:=aQ 0 f m rfl rfl
     obtain ⟨h6,ad,ah,bt,b1,a3,a4,a5,jH⟩:=Ym E h s
     obtain ⟨ff,ak,us,bX,cD,e5,g8,hE,jr⟩:=bM h6 ad a3
     have Hl:ah.length=P.cellsOf f.type:=by rw [a5,List.length_take,List.length_drop,ar];omega
     refine ⟨ff,ak,ah++us,bt.trans bX,b1.trans cD,e5,?_,?_,?_⟩
     · have e:cs.drop o=(cs.drop f.offset).take (P.cellsOf f.type)++cs.drop (o+P.cellsOf f.type):=by
        rw [ar,←List.drop_drop,List.take_append_drop]
       rw [e]
       exact bW.append (Qr bX a4) g8
     · rw [List.length_append,Hl,hE]
       omega
     · intro i g k bl al
       cases i with
       | zero=>
         simp only [List.getElem?_cons_zero,Option.some.injEq] at bl al
         subst bl al
         refine ⟨by omega,?_⟩
         rw [ar,Nat.sub_self,List.drop_zero,List.take_left' Hl]
         exact fv.ext cD _ _ _ _ jH
       | succ i=>
         obtain ⟨cg,dk⟩:=jr i g k (by simpa using bl) (by simpa using al)
         refine ⟨by omega,?_⟩
         rw [show g.offset-o=P.cellsOf f.type + (g.offset - (o+P.cellsOf f.type)) from by omega,←List.drop_drop,List.drop_left' Hl]
         exact dk
   · rw [if_neg ar] at aF
     cases aF
theorem MO {w:World} {a:Addr} {y:Value} (h:w.cell? a=some y):a.spot=none∧∃c el cy,w.heap[a.block]? =some (.cells c el cy)∧c[a.off]? =some y:=by
 refine ⟨World.cell?_spot h,?_⟩
 unfold World.cell? at h
 split at h
 · rename_i c el cy cU
   split at h
   · cases h
   · exact ⟨c,el,cy,cU,h⟩
 · cases h
theorem SJ (a:Addr) (n:Nat):(a.add n).block=a.block:=by unfold Addr.add;split<;>rfl
theorem SK (a:Addr) (n:Nat):(a.add n).off=a.off+n:=by unfold Addr.add;split<;>simp_all
theorem aem {w:World} {a:Addr} {l:List Value} (aj:0<l.length) (h:∀i,i<l.length→w.cell? (a.add i)=l[i]?):
 a.spot=none∧∃c el cy,w.heap[a.block]? =some (.cells c el cy)∧a.off+l.length≤c.size∧∀i,i<l.length→c[a.off+i]? =l[i]? :=by
 have C1:w.cell? (a.add 0)=some l[0]:=by rw [h 0 aj];exact List.getElem?_eq_getElem aj
 obtain ⟨s1,c,el,cy,s2,h3⟩:=MO C1
 have ck:a.add 0=a:=by unfold Addr.add;simp
 rw [ck] at s1 s2 h3
 have key:∀i,i<l.length→c[a.off+i]? =l[i]? :=by
  intro i aH
  have q:=h i aH
  rw [List.getElem?_eq_getElem aH] at q ⊢
  obtain ⟨_,nJ,ahv,ahA,t2,t3⟩:=MO q
  rw [SJ,s2] at t2
  rw [SK] at t3
  simp only [Option.some.injEq,Obj.cells.injEq] at t2
  obtain ⟨rfl,_,_⟩:=t2
  exact t3
 refine ⟨s1,c,el,cy,s2,?_,key⟩
 have:=key (l.length-1) (by omega)
 rw [List.getElem?_eq_getElem (by omega)] at this
 have a7:=(Array.getElem?_eq_some_iff.1 this).1
 omega
theorem Ru {E:Env} {h:ai} (s:cf ⟨W,fun _=>none⟩ E h W) {a:Addr} {cap:Nat} {l:List Value} (aj:0<l.length) (aC:∀i,i<l.length→W.cell? (a.add i)=l[i]?) {us:List V} (ba:bW E us l):
 ∃a_ J b,E.le a_∧Ext h J∧cf ⟨W,fun _=>none⟩ a_ J W∧Old J b∧a.spot=none∧a_ b=some ⟨a.block,a.off,cap⟩∧Rd J b us:=by
 obtain ⟨s1,c,el,cy,s2,h3,od⟩:=aem aj aC
 have ah6:us.length=l.length:=(bW.length ba).symm
 refine ⟨sl E h ⟨a.block,a.off,cap⟩,h.new (.ro us),ao h.next,Ja s _,(Ext.refl h).new _,afB s s2 (by omega) fun i v y bh bG=>?_,uQ,s1,Rt _ _ _,.inl (gz _)⟩
 have aH:i<l.length:=by
  have:=(List.getElem?_eq_some_iff.1 bh).1
  omega
 rw [od i aH] at bG
 obtain ⟨Ew,aI,bo⟩:=bW.get ba i v bh
 rw [bG] at aI
 simp only [Option.some.injEq] at aI
 rw [aI]
 exact bo
theorem Nx {α:Type} (size:Nat):∀(pieces:List (List α)) (i j:Nat),(∀l ∈ pieces,l.length=size)→i<pieces.length→j<size→pieces.flatten[i * size+j]? =(pieces[i]?).bind (·[j]?)
 | [],i,j,_,aH,_=>by simp at aH
 | l::ls,i,j,aQ,aH,bQ=>by
   have aL:l.length=size:=aQ l (by simp)
   cases i with
   | zero=>
     rw [Nat.zero_mul,Nat.zero_add,List.flatten_cons,List.getElem?_append_left (by omega)]
     simp
   | succ i=>
     rw [List.flatten_cons,List.getElem?_append_right (by rw [aL,Nat.add_mul];omega)]
     rw [show (i+1) * size+j-l.length=i * size+j from by rw [aL,Nat.add_mul];omega]
     rw [Nx size ls i j (fun l aL=>aQ l (by simp [aL])) (by simpa using aH) bQ]
     simp
theorem F5 {α:Type} (size:Nat):∀(pieces:List (List α)),(∀l ∈ pieces,l.length=size)→pieces.flatten.length=pieces.length * size
 | [],_=>by simp
 | l::ls,aQ=>by
   rw [List.flatten_cons,List.length_append,F5 size ls (fun l aL=>aQ l (by simp [aL])),aQ l (by simp),List.length_cons,Nat.add_mul]
   omega
theorem P1 {α:Type} (R:Nat→α→Prop):∀(len:Nat),(∀i,i<len→∃l,R i l)→∃ct:List α,ct.length=len∧∀i l,ct[i]? =some l→R i l
 | 0,_=>⟨[],rfl,fun i l q=>by simp at q⟩
 | m+1,h=>by
   obtain ⟨ct,aP,aA⟩:=P1 R m (fun i aH=>h i (by omega))
   obtain ⟨l,ad⟩:=h m (by omega)
   refine ⟨ct++[l],by simp [aP],fun i hd nW=>?_⟩
   by_cases aH:i<ct.length
   · rw [List.getElem?_append_left aH] at nW
     exact aA i hd nW
   · rw [List.getElem?_append_right (by omega)] at nW
     have ck:i-ct.length=0:=by
      by_cases q:i-ct.length=0
      · exact q
      · rw [List.getElem?_eq_none (by simp;omega)] at nW
        cases nW
     rw [ck] at nW
     simp at nW
     subst nW
     obtain rfl:i=m:=by omega
     exact ad
theorem Dr (cq:wZ P=true) (b6:laidOutB P=true):∀(n:Nat) (t:TypeId) (cs:List Value) (x:DataW H × List MemPlace),t<P.types.size→DataW.trod enc P W base sp held n t cs=some x→sv P W n (g9 x.1) t cs
 | 0,t,cs,x,_,h=>by simp [DataW.trod] at h
 | n+1,t,cs,x,a7,h=>by
   have Ch:∀(cs:List Value),(∀J ah,ah.length=cs.length→fv P J (n+1) (g9 x.1) t ah)→sv P W (n+1) (g9 x.1) t cs:=by
    intro cs H E h s
    refine ⟨E,h,cs.map fun _=>.bad,fun _ _ q=>q,Ext.refl h,s,?_,by simp,H _ _ (by simp)⟩
    clear H
    induction cs with
    | nil=>rfl
    | cons c cs bJ=>exact ⟨c,cs,rfl,by simp [Rel],bJ⟩
   cases hu:P.underlying t with
   | none=>
     refine Ch cs fun J ah _=>?_
     simp only [fv,hu]
   | some u=>
     cases u with
     | bool=>
       obtain ⟨b,rfl,_⟩:=DataW.trod_bool hu h
       intro E h s
       exact ⟨E,h,[.bool b],fun _ _ q=>q,Ext.refl h,s,⟨_,_,rfl,rfl,rfl⟩,rfl,by simp only [fv,hu];exact ⟨b,rfl⟩⟩
     | int k=>
       obtain ⟨i,rfl,_,hw⟩:=DataW.trod_int hu h
       intro E h s
       exact ⟨E,h,[.int k i],fun _ _ q=>q,Ext.refl h,s,⟨_,_,rfl,rfl,rfl⟩,rfl,by simp only [fv,hu];exact ⟨i,rfl,hw⟩⟩
     | string=>
       obtain ⟨b,rfl,rfl,_⟩:=DataW.trod_string hu h
       intro E h s
       exact ⟨E,h,[.str b.data.toList],fun _ _ q=>q,Ext.refl h,s,⟨_,_,rfl,rfl,rfl⟩,rfl,by simp only [fv,hu,g9];exact ⟨_,rfl,Nat.le_refl _⟩⟩
     | struct bg=>
       obtain ⟨xs,AM,a1,rfl,aL,Hq,ar⟩:=DataW.trod_struct hu h
       obtain rfl:n=AM:=by omega
       have YQ:yK P bg.toList 0=some (P.cellsOf t):=by
        unfold wZ at cq
        rw [List.all_eq_true] at cq
        have:=cq t (List.mem_range.2 a7)
        rw [hu] at this
        exact of_decide_eq_true this
       have hJ:∀(i:Nat) (f:Field) (k:Nat),bg.toList[i]? =some f→(xs.map fun x=>g9 x.1)[i]? =some k→sv P W n k f.type ((cs.drop f.offset).take (P.cellsOf f.type)):=by
        intro i f k aH al
        have pO:f ∈ bg.toList:=List.mem_of_getElem? aH
        have C5:bg[i]? =some f:=by simpa using aH
        have:=ar i f C5
        have N':i<xs.length:=by
         rw [Hq]
         exact (Array.getElem?_eq_some_iff.1 C5).1
        rw [List.getElem?_eq_getElem N'] at this
        rw [List.getElem?_map,List.getElem?_eq_getElem N',Option.map_some,Option.some.injEq] at al
        subst al
        exact Dr cq b6 n _ _ _ ((kid_struct b6 a7 hu).1 f pO) this
       intro E h s
       obtain ⟨_,g⟩:=O1 n bg.toList (xs.map fun x=>g9 x.1) 0 _ cs YQ aL (by simp [Hq]) hJ
       obtain ⟨a_,J,ah,bt,b1,a3,a4,a5,jH⟩:=g E h s
       refine ⟨a_,J,ah,bt,b1,a3,by simpa using a4,by rw [a5,aL];omega,?_⟩
       simp only [fv,hu]
       refine ⟨by omega,xs.map fun x=>g9 x.1,by simp [Hq],?_,fun i f k pO al=>⟨?_,by simpa using (jH i f k pO al).2⟩⟩
       · simp only [g9,FA,List.map_map]
         exact Nat.le_refl _
       · rw [List.getElem?_map,Option.map_eq_some_iff] at al
         obtain ⟨y,_,rfl⟩:=al
         exact sG _
     | slice e=>
       rcases DataW.trod_slice hu h with ⟨rfl,rfl⟩ | ⟨a,len,cap,elems,rest,AM,a1,rfl,rfl,af,uw,_,N4,GG,_,_⟩
       · intro E h s
         exact ⟨E,h,[.aw],fun _ _ q=>q,Ext.refl h,s,⟨_,_,rfl,rfl,rfl⟩,rfl,by simp only [fv,hu];exact ⟨sG _,.inl trivial⟩⟩
       · obtain rfl:n=AM:=by omega
         by_cases aM:P.cellsOf e=0
         · refine Ch _ fun J ah _=>?_
           simp only [fv,hu]
           exact ⟨sG _,.inr (.inr (.inl aM))⟩
         by_cases fY:len=0
         · subst fY
           intro E h s
           refine ⟨E,h,[.h4 .z 0 0 0],fun _ _ q=>q,Ext.refl h,s,⟨_,_,rfl,?_,rfl⟩,rfl,by simp only [fv,hu];exact ⟨sG _,.inr (.inl ⟨_,_,_,_,rfl⟩)⟩⟩
           simp only [Rel]
           exact ⟨_,_,rfl⟩
         · -- its elements
           have vZ:∀i,i<len→∃l,W.cells? base (a.add (i * P.cellsOf e)) (P.cellsOf e)=some l∧∀k:Nat,(elems.map fun x=>g9 x.1)[i]? =some k→sv P W n k e l:=by
            intro i aH
            have:=GG i aH
            rw [List.getElem?_eq_getElem (by omega)] at this
            rw [Option.bind_eq_some_iff] at this
            obtain ⟨l,ad,ak⟩:=this
            refine ⟨l,ad,fun k al=>?_⟩
            rw [List.getElem?_map,List.getElem?_eq_getElem (by omega),Option.map_some,Option.some.injEq] at al
            subst al
            exact Dr cq b6 n _ _ _ (kid_slice b6 a7 hu) ak
           obtain ⟨pieces,G5,kn⟩:∃pieces:List (List Value),pieces.length=len∧∀i (l:List Value),pieces[i]? =some l→W.cells? base (a.add (i * P.cellsOf e)) (P.cellsOf e)=some l∧∀k:Nat,(elems.map fun x=>g9 x.1)[i]? =some k→sv P W n k e l:=by
            exact P1 (fun i l=>W.cells? base (a.add (i * P.cellsOf e)) (P.cellsOf e)=some l∧∀k:Nat,(elems.map fun x=>g9 x.1)[i]? =some k→sv P W n k e l) len vZ
           have qM:∀(i:Nat) (l:List Value) (k:Nat),pieces[i]? =some l→(elems.map fun x=>g9 x.1)[i]? =some k→l.length=P.cellsOf e∧sv P W n k e l:=by
            intro i l k aH al
            obtain ⟨aP,aA⟩:=kn i l aH
            exact ⟨(Cp aP).1,aA k al⟩
           have Oi:∀l ∈ pieces,l.length=P.cellsOf e:=by
            intro l aL
            obtain ⟨i,aH⟩:=List.getElem?_of_mem aL
            exact (Cp (kn i l aH).1).1
           intro E h s
           obtain ⟨h6,ad,us,bt,b1,a3,a4,a5,jH⟩:=O2 n (P.cellsOf e) e pieces (elems.map fun x=>g9 x.1) (by simp [N4,G5]) qM E h s
           have hJ:=F5 (P.cellsOf e) pieces Oi
           have Ol:0<len * P.cellsOf e:=Nat.mul_pos (by omega) (by omega)
           have oQ:∀i,i<pieces.flatten.length→W.cell? (a.add i)=pieces.flatten[i]? :=by
            intro q aZ
            rw [hJ] at aZ
            have ux:q % P.cellsOf e<P.cellsOf e:=Nat.mod_lt _ (by omega)
            have hdiv:q / P.cellsOf e<pieces.length:=Nat.div_lt_of_lt_mul (by rw [Nat.mul_comm];exact aZ)
            have Yq:q / P.cellsOf e * P.cellsOf e+q % P.cellsOf e=q:=by rw [Nat.mul_comm];exact Nat.div_add_mod q _
            rw [←Yq,Nx (P.cellsOf e) pieces _ _ Oi hdiv ux,List.getElem?_eq_getElem hdiv]
            obtain ⟨aP,_⟩:=kn _ _ (List.getElem?_eq_getElem hdiv)
            have:=(Cp aP).2 _ ux
            rw [Option.bind_some,←this]
            congr 1
            unfold Addr.add
            by_cases fk:q / P.cellsOf e * P.cellsOf e=0
            · rw [fk];simp
            · by_cases fe:q % P.cellsOf e=0
              · rw [fe];simp
              · have z3:¬(q / P.cellsOf e * P.cellsOf e+q % P.cellsOf e=0):=by omega
                rw [if_neg fk,if_neg fe,if_neg z3]
                simp [Nat.add_assoc]
           obtain ⟨ff,ak,b,bX,cD,e5,g8,hE,jr,kE⟩:=Ru a3 (cap:=cap) (by rw [hJ,G5];exact Ol) oQ a4
           refine ⟨ff,ak,[.slice b 0 len cap],bt.trans bX,b1.trans cD,e5,⟨_,_,rfl,?_,rfl⟩,rfl,?_⟩
           · simp only [Rel]
             refine ⟨_,jr,uw,?_⟩
             obtain ⟨vu,acJ,st⟩:=a
             simp only at hE
             subst hE
             rfl
           · simp only [fv,hu]
             refine ⟨sG _,.inr (.inr (.inr ⟨b,len,cap,rfl,by omega,uw,g8,us,kE,by rw [a5,G5],elems.map fun x=>g9 x.1,by simp [N4],?_,fun i k al=>⟨?_,fv.ext cD _ _ _ _ (jH i k al)⟩⟩))⟩
             · simp only [g9,FA,List.map_map]
               exact Nat.add_le_add_right (Nat.le_add_right _ _) 1
             · rw [List.getElem?_map,Option.map_eq_some_iff] at al
               obtain ⟨y,_,rfl⟩:=al
               exact sG _
     | pointer e=>
       rcases DataW.trod_pointer hu h with ⟨rfl,rfl⟩ | ⟨a,FQ,y,AM,a1,rfl,rfl,aC,bG⟩
       · intro E h s
         exact ⟨E,h,[.cc],fun _ _ q=>q,Ext.refl h,s,⟨_,_,rfl,rfl,rfl⟩,rfl,by simp only [fv,hu];exact ⟨sG _,.inl trivial⟩⟩
       · obtain rfl:n=AM:=by omega
         by_cases aM:P.cellsOf e=0
         · refine Ch _ fun J ah _=>?_
           simp only [fv,hu]
           exact ⟨sG _,.inr (.inl aM)⟩
         · intro E h s
           obtain ⟨aP,aA⟩:=Cp aC
           obtain ⟨h6,ad,us,bt,b1,a3,a4,a5,jH⟩:=Dr cq b6 n _ _ _ (kid_pointer b6 a7 hu) bG E h s
           obtain ⟨ff,ak,b,bX,cD,e5,g8,hE,jr,kE⟩:=Ru a3 (cap:=0) (by omega) (fun i aH=>aA i (by omega)) a4
           refine ⟨ff,ak,[.ptr b 0],bt.trans bX,b1.trans cD,e5,⟨_,_,rfl,?_,rfl⟩,rfl,?_⟩
           · simp only [Rel]
             refine ⟨_,jr,?_⟩
             obtain ⟨vu,acJ,st⟩:=a
             simp only at hE
             subst hE
             rfl
           · simp only [fv,hu]
             exact ⟨sG _,.inr (.inr ⟨b,rfl,g8,us,kE,by omega,_,Nat.le_refl _,fv.ext cD _ _ _ _ jH⟩)⟩
     | map k e=>
       have g_:cs.length=1:=by
        unfold DataW.trod at h
        rw [hu] at h
        split at h<;>simp_all
       intro E h s
       refine ⟨E,h,[.bad],fun _ _ q=>q,Ext.refl h,s,?_,by simp [g_],by simp only [fv,hu];exact .inr trivial⟩
       match cs,g_ with
       | [c],_=>exact ⟨c,[],rfl,by simp [Rel],rfl⟩
     | interface ms=>
       have g_:cs.length=1:=by
        unfold DataW.trod at h
        rw [hu] at h
        split at h<;>simp_all
       intro E h s
       refine ⟨E,h,[.bad],fun _ _ q=>q,Ext.refl h,s,?_,by simp [g_],by simp only [fv,hu];exact .inr trivial⟩
       match cs,g_ with
       | [c],_=>exact ⟨c,[],rfl,by simp [Rel],rfl⟩
     | _=>
       refine Ch cs fun J ah _=>?_
       simp only [fv,hu]
def pt (P:Program) (h:ai) (n m:Nat) (t:TypeId) (v:V):Prop:=
 match P.underlying t with
 | some (.struct _) | some (.array _ _)=>∃ah,v=.agg ah∧fv P h n m t ah
 | _=>fv P h n m t [v]
theorem pt.ext {h J:ai} (e:Ext h J) {n m:Nat} {t:TypeId} {v:V} (H:pt P h n m t v):pt P J n m t v:=by
 unfold pt at H ⊢
 split at H
 · obtain ⟨ah,aP,aA⟩:=H
   exact ⟨ah,aP,fv.ext e _ _ _ _ aA⟩
 · obtain ⟨ah,aP,aA⟩:=H
   exact ⟨ah,aP,fv.ext e _ _ _ _ aA⟩
 · exact fv.ext e _ _ _ _ H
theorem abE (cq:wZ P=true) (b6:laidOutB P=true) {r:Reach} {cQ:Nat} {t:TypeId} {v:Value} {d:DataW H} {p:List MemPlace} (a7:t<P.types.size) (b8:Value.okWide P W r cQ t v) (ca:DataW.Trod enc P W base sp held t v d p) {E:Env} {h:ai} (s:cf ⟨W,fun _=>none⟩ E h W):
 ∃n a_ J x,E.le a_∧Ext h J∧cf ⟨W,fun _=>none⟩ a_ J W∧Rel a_ x v∧pt P J n (g9 d) t x:=by
 obtain ⟨fuel,ar⟩:=ca
 obtain ⟨a_,J,ah,bt,b1,a3,a4,a5,jH⟩:=Dr cq b6 _ _ _ _ a7 ar E h s
 have agg:(∃cs,v=.agg cs)→∃x,Rel a_ x v∧x=.agg ah:=by
  rintro ⟨cs,rfl⟩
  exact ⟨.agg ah,by simp only [Rel];exact ⟨cs,rfl,a4⟩,rfl⟩
 have one:v.cells=#[v]→∃x,Rel a_ x v∧ah=[x]:=by
  intro aC
  rw [aC] at a4 a5
  match ah,a4,a5 with
  | [x],⟨y,gm,aI,bo,cp⟩,_=>
    simp only [List.cons.injEq] at aI
    exact ⟨x,aI.1 ▸ bo,rfl⟩
 refine ⟨fuel,a_,J,?_⟩
 unfold Value.okWide at b8
 cases hu:P.underlying t with
 | none=>
   rw [hu] at b8
   simp only [Cell.okWide,Cell.ok,hu] at b8
 | some u=>
   rw [hu] at b8
   unfold pt
   rw [hu]
   cases u<;>simp only at b8 ⊢<;>first
    | (obtain ⟨cs,bh,_⟩:=b8
       obtain ⟨x,aP,aA⟩:=agg ⟨cs,bh⟩
       exact ⟨x,bt,b1,a3,aP,ah,aA,jH⟩)
    | (have aC:v.cells=#[v]:=by
        cases v<;>first
         | rfl
         | (simp only [Cell.okWide,Cell.ok,hu] at b8)
       obtain ⟨x,aP,aA⟩:=one aC
       exact ⟨x,bt,b1,a3,aP,aA ▸ jH⟩)
def oC (P:Program) (h:ai):Nat→List TypeId→List V→Prop
 | _,[],[]=>True
 | m,t::dm,v::ah=>∃k cb,k+cb≤m∧(∃n,pt P h n k t v)∧oC P h cb dm ah
 | _,_,_=>False
theorem oC.mono {h:ai}:∀{m rZ:Nat} {dm:List TypeId} {ah:List V},m≤rZ→oC P h m dm ah→oC P h rZ dm ah
 | _,_,[],[],_,H=>by unfold oC;trivial
 | _,_,[],_::_,_,H=>H.elim
 | _,_,_::_,[],_,H=>H.elim
 | _,_,_::_,_::_,hm,⟨k,cb,al,H,jn⟩=>⟨k,cb,Nat.le_trans al hm,H,jn⟩
theorem O0 (cq:wZ P=true) (b6:laidOutB P=true) {r:Reach} {cQ:Nat}:∀{dm:List TypeId} {ah:List Value} {ds:List (DataW H)} {p:List MemPlace},(∀t ∈ dm,t<P.types.size)→(∀(j:Nat) t v,dm[j]? =some t→ah[j]? =some v→Value.okWide P W r cQ t v)→
 DataW.TrodAll enc P W base sp held dm ah ds p→∀{E:Env} {h:ai},cf ⟨W,fun _=>none⟩ E h W→∃a_ J xs,E.le a_∧Ext h J∧cf ⟨W,fun _=>none⟩ a_ J W∧bW a_ xs ah∧oC P J (m_ ds) dm xs
 | [],[],ds,p,_,_,_,E,h,s=>⟨E,h,[],fun _ _ q=>q,Ext.refl h,s,rfl,by unfold oC;trivial⟩
 | [],_::_,ds,p,_,_,ca,E,h,s=>by cases ds<;>exact ca.elim
 | _::_,[],ds,p,_,_,ca,E,h,s=>by cases ds<;>exact ca.elim
 | _::_,_::_,[],p,_,_,ca,E,h,s=>ca.elim
 | t::dm,v::ah,d::ds,p,aF,bh,⟨b_,ch,ad,ak,_⟩,E,h,s=>by
   obtain ⟨n,h6,bH,x,bt,b1,a3,a4,a5⟩:=abE cq b6 (aF t (by simp)) (bh 0 t v rfl rfl) ad s
   obtain ⟨ff,bM,xs,bX,cD,e5,g8,hE⟩:=O0 cq b6 (fun t q=>aF t (by simp [q])) (fun j t v aP aA=>bh (j+1) t v (by simpa using aP) (by simpa using aA)) ak a3
   exact ⟨ff,bM,x::xs,bt.trans bX,b1.trans cD,e5,⟨_,_,rfl,Rel.mono bX _ _ a4,g8⟩,g9 d,m_ ds,by simp only [m_];exact Nat.le_refl _,⟨n,a5.ext cD⟩,hE⟩
theorem Vb (cq:wZ P=true) (b6:laidOutB P=true) {r:Reach} {cQ:Nat} {f:FuncId} {dm:List TypeId} {ah:List Value} {ds:List (DataW H)} {p:List MemPlace} (ho:∀t ∈ dm,t<P.types.size) (bh:∀(j:Nat) t v,dm[j]? =some t→ah[j]? =some v→Value.okWide P W r cQ t v)
 (ca:DataW.TrodAll enc P W base sp held dm ah ds p) (qB:Lay.ok W) (eT:kD P) (af:∃fn,P.funcs[f]? =some fn∧fn.body.isSome=true) (aC:∀(h:ai) (xs:List V),oC P h (m_ ds) dm xs→bB P f xs h fun y _=>y=.bool true):
 Calls P f ah.toArray W fun e aT=>e=.returned (.bool true)∧Below W.heap.size W aT:=by
 obtain ⟨E,h,xs,_,_,a3,a4,a5⟩:=O0 cq b6 ho bh ca (QR W qB)
 obtain ⟨y,J,nk,rfl⟩:=aC h xs a5
 refine (nk.calls eT af _ E W ah a4 a3).mono fun e aT q=>?_
 obtain ⟨a_,x,rfl,_,aA,a2⟩:=q
 simp only [Rel] at aA
 subst aA
 exact ⟨rfl,a2.frame⟩
end
end Go.Proofs.YtjbiefneffiogaaGreat.bs
namespace Go.Proofs.YtjbiefneffiogaaGreat.bs
variable [Lay]
open Go Go.RowKit
section
variable {P:Program} {h:ai} {n m:Nat} {t:TypeId}
theorem fv.pos {ah:List V} (H:fv P h n m t ah):∃k,n=k+1:=by
 cases n with
 | zero=>exact H.elim
 | succ m=>exact ⟨m,rfl⟩
theorem fv.int {ah:List V} {k:IntKind} (H:fv P h n m t ah) (hu:P.underlying t=some (.int k)):∃i,ah=[.int k i]∧(Lit.int k i).wf=true:=by
 obtain ⟨m,rfl⟩:=H.pos
 simpa only [fv,hu] using H
theorem fv.str {ah:List V} (H:fv P h n m t ah) (hu:P.underlying t=some .string):∃s:List UInt8,ah=[.str s]∧s.length+1≤m:=by
 obtain ⟨_,rfl⟩:=H.pos
 simpa only [fv,hu] using H
def wU (v:V):Prop:=∀b off l c,v=.slice b off l c→l≤c
end
end Go.Proofs.YtjbiefneffiogaaGreat.bs
namespace Go.Proofs.YtjbiefneffiogaaGreat.bs
variable [Lay]
open Go Go.RowKit Go.ChangeShapes Go.WideShapes
section
variable {H:Type} {enc:TypeId × Value→H} {P:Program}
theorem Kh (b6:laidOutB P=true) {W zl:World} (af:Below W.heap.size W zl):∀{dm:List TypeId} {ah:List Value} {ds:List (DataW H)} {ct:List MemPlace},(dm.all fun t=>P.readableRec t&&decide (t<P.types.size))=true→
 DataW.TrodAll enc P W 0 (fun _=>true) true dm ah ds ct→DataW.TrodAll enc P zl 0 (fun b=>decide (b<W.heap.size)) true dm ah ds ct
 | [],[],[],_,_,h=>h
 | [],_::_,_,_,_,h=>by rename_i ds _;cases ds<;>exact h.elim
 | [],[],_::_,_,_,h=>h.elim
 | _::_,[],_,_,_,h=>by rename_i ds _;cases ds<;>exact h.elim
 | _::_,_::_,[],_,_,h=>h.elim
 | t::dm,v::ah,d::ds,ct,ba,h=>by
   have a7:=h.lt
   obtain ⟨p,q,ad,ak,rfl⟩:=h
   simp only [List.all_cons,Bool.and_eq_true,decide_eq_true_eq] at ba
   exact ⟨p,q,Below.trod b6 ba.1.1 ba.1.2 ad af (fun x ax=>a7 x (by simp [ax])),Kh b6 af ba.2 ak,rfl⟩
theorem Rg {W:World} {base:Nat} {sp:Nat→Bool} {held:Bool}:∀{dm:List TypeId} {ah:List Value} {ds:List (DataW H)} {ct:List MemPlace},DataW.TrodAll enc P W base sp held dm ah ds ct→ds.length=dm.length
 | [],[],[],_,_=>rfl
 | [],_::_,ds,_,h=>by cases ds<;>exact h.elim
 | [],[],_::_,_,h=>h.elim
 | _::_,[],ds,_,h=>by cases ds<;>exact h.elim
 | _::_,_::_,[],_,h=>h.elim
 | t::dm,v::ah,d::ds,ct,h=>by
   obtain ⟨p,q,ad,ak,rfl⟩:=h
   simp [Rg ak]
theorem abC (cq:wZ P=true) (b6:laidOutB P=true) {f:FuncId} {fn:Func} {s:ChangeSpec} {I1:TypeId} (ho:(fn.params.toList.all fun t=>P.readableRec t&&decide (t<P.types.size))=true) (OA:s.vars=[]) (YA:fn.resultTypes=#[I1]) (YS:P.underlying I1=some .bool)
 (He:∀ds:List (DataW H),ds.length=fn.params.size→s.fn H (ds++[])={results:=[.lit (.bool true)],args:=ds})
 {B:Nat} (aC:∀(h:ai) (xs:List V),oC P h B fn.params.toList xs→bB P f xs h fun y _=>y=.bool true)
 {W:World} {base:Nat} {args:Array Value} {ds gs:List (DataW H)} {before:List MemPlace} (al:m_ (ds++gs)≤B) (oU:Lay.ok W) (eT:kD P) (af:∃fn,P.funcs[f]? =some fn∧fn.body.isSome=true)
 (qP:∀(j:Nat) t v,fn.params[j]? =some t→args[j]? =some v→Value.okWide P W .any base t v) (qB:DataW.Whole enc P fn.params.toList s.vars false W args.toList ds gs before):
 Calls P f args W fun e zl=>∃v,e=.returned v∧s.post enc P fn false true false false W args v zl:=by
 have Xf:=qB
 obtain ⟨p,q,dz,uk,rfl,qG,ahY⟩:=qB
 rw [OA] at uk
 obtain ⟨rfl,rfl⟩:=trodVars_none uk
 have hlen:ds.length=fn.params.size:=by rw [Rg dz];simp
 have hw:=Vb cq b6 (cQ:=base) (r:=.any) (fun t aF=>by
  have:=List.all_eq_true.1 ho t aF
  simp only [Bool.and_eq_true,decide_eq_true_eq] at this
  exact this.2) (fun j t v ad ak=>qP j t v (by simpa using ad) (by simpa using ak)) dz oU eT af (fun h xs q=>aC h xs (q.mono (by simpa using al)))
 simp only [Array.toArray_toList] at hw
 refine hw.mono fun e zl ⟨he,Kg⟩=>?_
 subst he
 refine ⟨_,rfl,ds,[],p++[],[],p,[],Xf,?_,?_,?_,Kg.frame _,fun h=>by cases h⟩
 · rw [He ds hlen,YA]
   exact trodAll_mk1 (shut_bool YS _)
 · rw [He ds hlen]
   exact Kh b6 Kg ho dz
 · rw [He ds hlen,OA]
   rfl
end
end Go.Proofs.YtjbiefneffiogaaGreat.bs
namespace Go.Proofs.YtjbiefneffiogaaGreat.bs
variable [Lay]
open Go Go.RowKit
theorem afx {P:Program} {h:ai} {B:Nat} {xs:List V} (aM:oC P h B [] xs):xs=[]:=by
 match xs,aM with
 | [],_=>rfl
theorem D_ {P:Program} {h:ai} {B:Nat} {t:TypeId} {dm:List TypeId} {xs:List V} (aM:oC P h B (t::dm) xs):∃a Cc k cb n,xs=a::Cc∧k+cb≤B∧pt P h n k t a∧oC P h cb dm Cc:=by
 match xs,aM with
 | a::Cc,⟨k,cb,al,⟨n,aj⟩,ad⟩=>exact ⟨a,Cc,k,cb,n,rfl,al,aj,ad⟩
section
variable {P:Program} {h:ai} {n m:Nat} {t:TypeId} {v:V}
theorem afy (aM:pt P h n m t v) (hu:P.underlying t=some .string):∃s:List UInt8,v=.str s∧s.length+1≤m:=by
 unfold pt at aM
 rw [hu] at aM
 obtain ⟨s,e,q⟩:=fv.str aM hu
 simp only [List.cons.injEq,and_true] at e
 exact ⟨s,e,q⟩
theorem IP {k:IntKind} (aM:pt P h n m t v) (hu:P.underlying t=some (.int k)):∃i,v=.int k i∧(Lit.int k i).wf=true:=by
 unfold pt at aM
 rw [hu] at aM
 obtain ⟨s,e,q⟩:=fv.int aM hu
 simp only [List.cons.injEq,and_true] at e
 exact ⟨s,e,q⟩
end
end Go.Proofs.YtjbiefneffiogaaGreat.bs
namespace Go.Proofs.YtjbiefneffiogaaGreat.bs
variable [Lay]
open Go Go.RowKit Go.Maps Go.Sort Go.Shelf
def yd (x:Int):List Int→List Int
 | []=>[x]
 | y::l=>bif Int.leB x y then x::y::l else y::yd x l
def iv:List Int→List Int
 | []=>[]
 | x::l=>yd x (iv l)
theorem HA (x:Int):∀l,(yd x l).Perm (x::l)
 | []=>List.Perm.refl _
 | y::l=>by
   simp only [yd]
   cases Int.leB x y with
   | true=>exact List.Perm.refl _
   | false=>exact ((HA x l).cons y).trans (List.Perm.swap x y l)
theorem sb:∀l,(iv l).Perm l
 | []=>List.Perm.refl _
 | x::l=>(HA x _).trans ((sb l).cons x)
theorem OJ (x:Int):∀l:List Int,l.Pairwise (·≤·)→(yd x l).Pairwise (·≤·)
 | [],_=>List.pairwise_singleton _ _
 | y::l,h=>by
   simp only [yd,oY]
   by_cases rS:x≤y
   · rw [decide_eq_true rS]
     refine List.pairwise_cons.2 ⟨fun z bD=>?_,h⟩
     rcases List.mem_cons.1 bD with rfl | bD
     · exact rS
     · exact Int.le_trans rS ((List.pairwise_cons.1 h).1 z bD)
   · rw [decide_eq_false rS]
     refine List.pairwise_cons.2 ⟨fun z bD=>?_,OJ x l (List.pairwise_cons.1 h).2⟩
     rcases List.mem_cons.1 ((HA x l).mem_iff.1 bD) with rfl | bD
     · omega
     · exact (List.pairwise_cons.1 h).1 z bD
theorem Ec:∀l,(iv l).Pairwise (·≤·)
 | []=>.nil
 | x::l=>OJ x _ (Ec l)
theorem QV {l m:List Int} (h:m.Perm l):m.mergeSort (fun x y=>decide (x≤y))=iv l:=by
 have aQ:(m.mergeSort (fun x y=>decide (x≤y))).Perm (iv l):=((List.mergeSort_perm m _).trans h).trans (sb l).symm
 have aM:(m.mergeSort (fun x y=>decide (x≤y))).Pairwise (·≤·):=by
  have:=List.pairwise_mergeSort (le:=fun x y:Int=>decide (x≤y)) (fun a b c ad ak=>by simp only [decide_eq_true_eq] at *;omega) (fun a b=>by simp only [Bool.or_eq_true,decide_eq_true_eq];omega) m
  exact this.imp (fun h=>by simpa using h)
 exact aQ.eq_of_pairwise (fun a b _ _ ad ak=>Int.le_antisymm ad ak) aM (Ec l)
def n1:List jY→Option (List Int)
 | []=>some []
 | m::ms=>match m.k with
   | .int .i64 n=>(match n1 ms with
     | some l=>some (n::l)
     | none=>none)
   | _=>none
def yo (x:Int):List Int→Bool
 | []=>false
 | y::l=>Int.kb x y||yo x l
def uN:List Int→Bool
 | []=>true
 | x::l=>!yo x l&&uN l
def tW (clock:Nat):Nat→List jY→Bool
 | _,[]=>true
 | cm,m::ms=>Nat.ble cm m.born&&Nat.blt m.born clock&&tW clock (m.born+1) ms
def u6:List Int→Bool
 | []=>true
 | x::l=>(Lit.int .i64 x).wf&&u6 l
def cd (l:List Int):List V:=l.map (V.int .i64)
noncomputable def Ed (g:FuncId) (dI:aV) (h:ai):bE:=
 match h.get dI with
 | .cells n cs 0 _=>bif Nat.blt 0 n then (match T.get .bad (ao 0) cs with
   | .map b=>(match h.get b with
     | .mp es clock=>(match n1 es with
       | some aE=>bif uN aE&&tW clock 0 es&&u6 aE&&Nat.ble es.length 1000000 then (match iv aE with
          | []=>.val .aw h
          | x::l=>(match ld h (cd (x::l)) 1 false with
            | some J=>.val (.ei (ao h.next) 0 (x::l).length 0) J
            | none=>.fail)) else .fail
       | none=>.fail)
     | _=>.fail)
   | _=>.fail) else .fail
 | _=>.fail
noncomputable def Bh (g:FuncId):J2:=
 ⟨fun args h=>match args with
   | [.func f [.ptr dI 0]]=>bif Nat.beq f g then Ed g dI h else .fail
   | _=>.fail⟩
theorem OV:∀{es:List jY} {aE:List Int},n1 es=some aE→aE.length=es.length
 | [],aE,h=>by simp only [n1,Option.some.injEq] at h;subst h;rfl
 | m::ms,aE,h=>by
   unfold n1 at h
   split at h
   · cases aZ:n1 ms with
     | none=>rw [aZ] at h;cases h
     | some l=>
       rw [aZ] at h
       simp only [Option.some.injEq] at h
       subst h
       simp [OV aZ]
   · cases h
theorem OW {E:Env}:∀{es:List jY} {aE:List Int} {l:List MapEntry},n1 es=some aE→kC E es l→l.map (·.key)=aE.map (Value.int .i64)∧l.map (·.born)=es.map (·.born)
 | [],aE,l,h,ba=>by
   simp only [n1,Option.some.injEq] at h
   simp only [kC] at ba
   subst h ba
   exact ⟨rfl,rfl⟩
 | m::ms,aE,l,h,ba=>by
   simp only [kC] at ba
   obtain ⟨e,ahw,rfl,ad,ak,aB,bw⟩:=ba
   unfold n1 at h
   split at h
   · rename_i n al
     cases aZ:n1 ms with
     | none=>rw [aZ] at h;cases h
     | some l=>
       rw [aZ] at h
       simp only [Option.some.injEq] at h
       subst h
       obtain ⟨bH,bM⟩:=OW aZ bw
       rw [al] at ad
       simp only [Rel] at ad
       simp only [List.map_cons,bH,bM,ad,aB,and_self]
   · cases h
theorem Ps {x:Int}:∀{l:List Int},yo x l=false→x ∉ l
 | [],_=>by simp
 | y::l,h=>by
   simp only [yo,Bool.or_eq_false_iff] at h
   have ad:¬x=y:=by
    intro q
    have:=h.1
    rw [pE,decide_eq_false_iff_not] at this
    exact this q
   rw [List.mem_cons]
   rintro (q | q)
   · exact ad q
   · exact Ps h.2 q
theorem Py:∀{l:List Int},uN l=true→l.Nodup
 | [],_=>List.nodup_nil
 | x::l,h=>by
   simp only [uN,Bool.and_eq_true,Bool.not_eq_true'] at h
   exact List.nodup_cons.2 ⟨Ps h.1,Py h.2⟩
theorem Kn {clock:Nat}:∀{cm:Nat} {es:List jY},tW clock cm es=true→(∀n ∈ es.map (·.born),cm≤n∧n<clock)∧(es.map (·.born)).Nodup
 | cm,[],_=>⟨by simp,by simp⟩
 | cm,m::ms,h=>by
   simp only [tW,Bool.and_eq_true,Nat.ble_eq,Nat.blt_eq] at h
   obtain ⟨bH,bM⟩:=Kn h.2
   refine ⟨fun n a1=>?_,?_⟩
   · rw [List.map_cons] at a1
     rcases List.mem_cons.1 a1 with rfl | a1
     · exact h.1
     · have:=bH n a1
       omega
   · rw [List.map_cons]
     refine List.nodup_cons.2 ⟨fun q=>?_,bM⟩
     have:=bH _ q
     omega
theorem RA:∀{l:List Int},u6 l=true→∀x ∈ l,(Lit.int .i64 x).wf=true
 | [],_,x,ax=>by cases ax
 | y::l,h,x,ax=>by
   simp only [u6,Bool.and_eq_true] at h
   rcases List.mem_cons.1 ax with rfl | ax
   · exact h.1
   · exact RA h.2 x ax
theorem acB {l:List Int} (h:l.Nodup):(l.map (Value.int .i64)).Nodup:=by
 induction l with
 | nil=>exact List.nodup_nil
 | cons x l bJ=>
   obtain ⟨ad,ak⟩:=List.nodup_cons.1 h
   rw [List.map_cons]
   refine List.nodup_cons.2 ⟨fun q=>?_,bJ ak⟩
   obtain ⟨y,bG,e⟩:=List.mem_map.1 q
   cases e
   exact ad bG
def J4 (P:Program) (f g:FuncId) (kr:TypeId):Prop:=
 ∀(vb b H4:Nat) (tH:DataW Unit) (R:Value→Option (DataW Unit × List MemPlace)) (w:World),vb<w.heap.size→w.cell? ⟨vb,0,none⟩=some (.map (some b))→w.ownsMap P kr R b H4 tH→Maps.size tH≤maxLen→Maps.size tH * 8≤140737488355328→
  Calls P f #[.func (.func g) #[] #[.pointer (some ⟨vb,0,none⟩)]] w fun e aT=>∃(v:Value) (gN:List Int),e=.returned v∧gN.Perm (intKeys tH)∧
   aT.ownsRow w.heap.size kr 1 v gN.length ((gN.mergeSort (fun x y=>decide (x≤y))).map encZ)∧(v=.slice none 0 0↔gN=[])∧Below w.heap.size w aT
theorem HC (E:Env):∀l:List Int,bW E (cd l) (l.map encZ)
 | []=>rfl
 | x::l=>by
   simp only [cd,List.map_cons,bW]
   exact ⟨_,_,rfl,by simp only [Rel],HC E l⟩
theorem adm {aR:Fr} {E:Env} {h:ai} {w:World} (s:cf aR E h w) {b:aV} {q:nI} (bA:(h.get b).own=true) (aZ:E b=some q):q.bb<w.heap.size:=by
 have af:=s.at aZ
 cases bl:h.get b with
 | dead=>rw [bl] at bA;cases bA
 | view n cs=>rw [bl] at bA;cases bA
 | cells n cs cS st=>rw [bl] at af;obtain ⟨_,hg,c,el,cy,e,_,cU,_⟩:=af;rw [e] at aZ;cases aZ;exact (Array.getElem?_eq_some_iff.1 cU).1
 | iter st pos=>rw [bl] at af;obtain ⟨hg,e,_,_,cU⟩:=af;rw [e] at aZ;cases aZ;exact (Array.getElem?_eq_some_iff.1 cU).1
 | mp es clock=>rw [bl] at af;obtain ⟨hg,a,e,_,cU,_⟩:=af;rw [e] at aZ;cases aZ;exact (Array.getElem?_eq_some_iff.1 cU).1
theorem QZ {P:Program} {f g:FuncId} {kr:TypeId} (sW:P.underlying kr=some (.int .i64)) (C:J4 P f g kr) {args:List V} {h J:ai} {v:V} (he:(Bh g).run args h=.val v J)
 (aR:Fr) (E:Env) (w:World) (xs:List Value) (ax:bW E args xs) (s:cf aR E h w):
 Calls P f xs.toArray w fun e aT=>∃a_ x,e=.returned x∧E.le a_∧Rel a_ v x∧cf aR a_ J aT:=by
 match args,he,ax with
 | [.func zP [.ptr dI 0]],he,ax=>
   simp only [Bh] at he
   cases GB:Nat.beq zP g with
   | false=>rw [GB] at he;cases he
   | true=>
     rw [GB] at he
     simp only [cond_true] at he
     have XJ:zP=g:=Nat.eq_of_beq_eq_true GB
     subst XJ
     simp only [bW] at ax
     obtain ⟨y,_,rfl,bG,rfl⟩:=ax
     simp only [Rel] at bG
     obtain ⟨a,rfl,q,_,bT,aZ,rfl⟩:=bG
     obtain ⟨p,aQ,rfl⟩:=aZ
     have Gn:a=#[.pointer (some ⟨p.bb,p.base+0,none⟩)]:=by
      rw [←Array.toList_inj,bT]
     subst Gn
     unfold Ed at he
     split at he
     · rename_i n cs st kH
       have x1:=s.base dI p n cs st kH aQ
       have pL:=s.at aQ
       rw [kH] at pL
       obtain ⟨_,nt,c,el,cy,aI,_,C4,_,_,_,N1⟩:=pL
       rw [aQ] at aI;cases aI
       cases a1:Nat.blt 0 n with
       | false=>rw [a1] at he;cases he
       | true=>
         rw [a1] at he
         simp only [cond_true] at he
         rw [Nat.blt_eq] at a1
         split at he
         · rename_i b vW
           have C1:0<c.size:=by have:=N1.1;omega
           have k9:=N1.2 0 c[0] a1 (by rw [x1];exact Array.getElem?_eq_getElem C1)
           rw [vW] at k9
           simp only [Rel] at k9
           obtain ⟨eD,ns,oQ⟩:=k9
           split at he
           · rename_i es clock sR
             have kK:=s.at ns
             rw [sR] at kK
             obtain ⟨ait,am,bo,_,X',Am⟩:=kK
             rw [ns] at bo;cases bo
             cases uv:n1 es with
             | none=>rw [uv] at he;cases he
             | some aE=>
               rw [uv] at he
               simp only at he
               cases l':(uN aE&&tW clock 0 es&&u6 aE&&Nat.ble es.length 1000000) with
               | false=>rw [l'] at he;cases he
               | true=>
                 rw [l'] at he
                 simp only [cond_true] at he
                 simp only [Bool.and_eq_true,Nat.ble_eq] at l'
                 obtain ⟨⟨⟨bH,bM⟩,cT⟩,fF⟩:=l'
                 obtain ⟨bS,cF⟩:=OW uv Am
                 have GO:=OV uv
                 have NU:am.size=aE.length:=by
                  have:=congrArg List.length bS
                  simpa using this
                 obtain ⟨bX,cD⟩:=Kn bM
                 have C9:maxLen=9223372036854775807:=by decide
                 have YM:MapKept.Stamped am clock:=by
                  refine ⟨fun x ax=>?_,by rw [cF];exact cD,by rw [bS];exact acB (Py bH)⟩
                  have:x.born ∈ es.map (·.born):=by rw [←cF];exact List.mem_map_of_mem ax
                  exact (bX _ this).2
                 have XY:∀x ∈ am.toList,∃n ∈ aE,x.key=.int .i64 n:=by
                  intro x ax
                  have:x.key ∈ am.toList.map (·.key):=List.mem_map_of_mem ax
                  rw [bS] at this
                  obtain ⟨n,a1,e⟩:=List.mem_map.1 this
                  exact ⟨n,a1,e.symm⟩
                 have fx:∀x ∈ am.toList,∃n,x.key=.int .i64 n∧WideElems.rd P kr (fun _=>some ((.nil:DataW Unit),[])) x=some (.int .i64 n,.nil):=by
                  intro x ax
                  obtain ⟨n,a1,e⟩:=XY x ax
                  refine ⟨n,e,?_⟩
                  unfold WideElems.rd
                  rw [e,Maps.keyOf_int_mk sW (RA cT n a1)]
                  rfl
                 have Aa:WideElems.Fit P kr (fun _=>some ((.nil:DataW Unit),[])) am clock:=⟨by rw [NU,GO,C9];omega,YM,fun x ax=>by obtain ⟨n,_,e⟩:=fx x ax;exact ⟨_,e⟩⟩
                 have hy:w.ownsMap P kr (fun _=>some ((.nil:DataW Unit),[])) eD.bb am.size (.map ((am.toList.map (WideElems.rg P kr (fun _=>some ((.nil:DataW Unit),[])))).foldr DataW.insert [])):=⟨am,clock,X',Aa,Nat.le_refl _,rfl⟩
                 have XZ:(am.toList.map (WideElems.rg P kr (fun _=>some ((.nil:DataW Unit),[])))).map (fun p=>intOf p.1)=aE:=by
                  have bD:∀(l:List MapEntry) (tE:List Int),(∀x ∈ l,∃n,x.key=.int .i64 n∧WideElems.rd P kr (fun _=>some ((.nil:DataW Unit),[])) x=some (.int .i64 n,.nil))→l.map (·.key)=tE.map (Value.int .i64)→(l.map (WideElems.rg P kr (fun _=>some ((.nil:DataW Unit),[])))).map (fun p=>intOf p.1)=tE:=by
                   intro l
                   induction l with
                   | nil=>
                     intro tE _ e
                     cases tE with
                     | nil=>rfl
                     | cons z tE=>simp at e
                   | cons x l bJ=>
                     intro tE jh e
                     cases tE with
                     | nil=>simp at e
                     | cons z tE=>
                       simp only [List.map_cons,List.cons.injEq] at e
                       obtain ⟨n,aI,bo⟩:=jh x (List.mem_cons_self ..)
                       have Zg:z=n:=by
                        have:=e.1.symm.trans aI
                        injection this
                       rw [List.map_cons,List.map_cons,bJ tE (fun y bG=>jh y (List.mem_cons_of_mem _ bG)) e.2]
                       unfold WideElems.rg
                       rw [bo,Zg]
                       rfl
                  exact bD am.toList aE fx bS
                 have CV:(intKeys (.map ((am.toList.map (WideElems.rg P kr (fun _=>some ((.nil:DataW Unit),[])))).foldr DataW.insert []):DataW Unit)).Perm aE:=by
                  have:=(WideShapes.sorted_perm (am.toList.map (WideElems.rg P kr (fun _=>some ((.nil:DataW Unit),[]))))).map (fun p=>intOf p.1)
                  rw [XZ] at this
                  exact this
                 have gG:Maps.size (.map ((am.toList.map (WideElems.rg P kr (fun _=>some ((.nil:DataW Unit),[])))).foldr DataW.insert []):DataW Unit)=aE.length:=by
                  rw [Maps.size_eq,length_sorted,List.length_map,Array.length_toList,NU]
                 have a7:=(Array.getElem?_eq_some_iff.1 C4).1
                 have Xo:w.cell? ⟨p.bb,0,none⟩=some (.map (some eD.bb)):=by
                  simp only [World.cell?,C4]
                  rw [←oQ]
                  exact Array.getElem?_eq_getElem C1
                 have call:=C p.bb eD.bb am.size _ _ w a7 Xo hy (by rw [gG,GO,C9];omega) (by rw [gG,GO];omega)
                 rw [show p.base+0=0 from by rw [x1]]
                 refine call.mono fun e aT q=>?_
                 obtain ⟨v0,gN,rfl,aP,aA,a2,b'⟩:=q
                 have rN:gN.Perm aE:=aP.trans CV
                 rw [QV rN] at aA
                 have Aw:gN.length=(iv aE).length:=by rw [rN.length_eq,(sb aE).length_eq]
                 split at he
                 · rename_i YC
                   have:gN=[]:=by
                    rw [YC] at Aw
                    exact List.eq_nil_of_length_eq_zero Aw
                   cases he
                   rw [a2.2 this]
                   exact ⟨E,_,rfl,fun _ _ q=>q,by simp only [Rel],s.below b'⟩
                 · rename_i x l YD
                   rw [YD] at Aw aA
                   cases vQ:ld h (cd (x::l)) 1 false with
                   | none=>rw [vQ] at he;cases he
                   | some ad=>
                     rw [vQ] at he
                     simp only [bE.val.injEq] at he
                     obtain ⟨rfl,rfl⟩:=he
                     obtain ⟨aY,bn⟩:=aA
                     rcases bn with ⟨_,bn⟩ | ⟨ik,cap,cur,rfl,bn,cl,c2,hz,q7,gj⟩
                     · rw [Aw] at bn;cases bn
                     · unfold ld at vQ
                       obtain ⟨aC,vQ⟩:=gO vQ
                       simp only [Bool.and_eq_true,Nat.ble_eq] at aC
                       simp only [Option.some.injEq] at vQ
                       subst vQ
                       have fP:E.put (ao h.next) ⟨ik,0,cap⟩ (ao h.next)=some ⟨ik,0,cap⟩:=by unfold Env.put;rw [if_pos rfl]
                       have hle:E.le (E.put (ao h.next) ⟨ik,0,cap⟩):=Env.s_ (s.fresh h.next (Nat.le_refl _))
                       refine ⟨_,_,rfl,hle,?_,s.add (p:=⟨ik,0,cap⟩) b'.size (fun j bQ _=>b'.block j bQ) (Nat.le_trans s.frame.size bn) (fun b2 hg x8 pT l9=>?_) b'.os b'.tape b'.output (fun _ _ _ e=>by injection e with _ _ cp;omega) ?_⟩
                       · simp only [Rel]
                         exact ⟨_,fP,by simp only [Nat.zero_add];omega,by simp only [Nat.add_zero,Nat.sub_zero,Aw]⟩
                       · have:=adm s x8 pT
                         simp only at l9
                         omega
                       · have g_:=CM (bW.mono hle _ _ (HC E (x::l))) aC.1 (cur.toList.drop (gN.length * 1)).toArray
                         have Xs:((x::l).map encZ).toArray++(cur.toList.drop (gN.length * 1)).toArray=cur:=by
                          rw [←gj,←Array.toList_inj]
                          simp
                         rw [Xs] at g_
                         exact ⟨aC.1,⟨ik,0,cap⟩,cur,kr,(0,0),fP,Nat.le_trans s.frame.size bn,cl,.inr (Nat.le_refl _),fun _=>rfl,fun _=>by simp only;omega,g_⟩
           · cases he
         · cases he
     · cases he
end Go.Proofs.YtjbiefneffiogaaGreat.bs
